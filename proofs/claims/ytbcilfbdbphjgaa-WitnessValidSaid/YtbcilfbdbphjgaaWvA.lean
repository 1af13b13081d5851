/- Orders of a history: what the machine reckons of the loops and functions, by canonical states. No condition. -/
import Derived.Test.YtbcilfbdbphjgaaRows
import Derived.Test.YtbcilfbdbphjgaaBmVk
import Derived.KernelRfl
set_option linter.unusedSimpArgs false
set_option linter.unusedVariables false
set_option maxRecDepth 20000
namespace Go.Proofs.Ytbcilfbdbphjgaa.witnessValid
open Go Go.RowKit Go.Proofs.Ytbcilfbdbphjgaa.Bm
noncomputable def E0 : Env := mkEnv Try.prog 88 45
noncomputable def E1 : Env := { E0 with tyd := fun t => Nat.beq t 4 || Nat.beq t 5, bits := bitsR }
abbrev shO : List Sh := [.int .u64, .bool, .int .u32, .int .u32, .str, .int .i64, .int .i64, .bool]
abbrev shI : List Sh := [.int .i64]
abbrev shB : List Sh := [.bool]
/-- An operation. -/
structure Opn where
  w : Bool
  fr : Int
  ct : Int
  d : List Nat
  b : Int
  e : Int
  nv : Bool
def opAt (f : Nat → Nat → AV) (i : Nat) : Opn := ⟨(f i 1).toB, (f i 2).toI, (f i 3).toI, (f i 4).toS, (f i 5).toI, (f i 6).toI, (f i 7).toB⟩
def goodO (bl : Int) (x : Opn) : Bool := !(decide (x.ct < 1)) && !(decide (x.fr + x.ct > bl)) && !(decide (x.b < 0)) && !(x.e != 0 && decide (x.e ≤ x.b)) && !((x.w || x.e != 0) && ((x.d.length : Int) != 8 * x.ct))
def mustO (x : Opn) : Bool := !x.nv && x.e != 0
def mayO (x : Opn) : Bool := !x.nv && (x.w || x.e != 0)
def rngO (x : Opn) : Bool := decide (0 ≤ x.fr) && decide (x.fr < 4294967296) && decide (0 ≤ x.ct) && decide (x.ct < 4294967296)
def okN (n : Nat) : Bool := decide (n ≤ 9223372036854775807)
def okL (f : Nat → Nat → AV) (n : Nat) : Bool := okFrom (fun i => !(decide (((AV.toS (f i 4)).length : Int) > 1000))) 0 n
def okG (bl : Int) (f : Nat → Nat → AV) (n : Nat) : Bool := okFrom (fun i => goodO bl (opAt f i)) 0 n
def rngA (f : Nat → Nat → AV) (n : Nat) : Bool := okFrom (fun i => rngO (opAt f i)) 0 n
def gF (bl : Int) (f : Nat → Nat → AV) (n : Nat) : Bool := !(decide ((n : Int) > 16)) && !(decide (bl < 1)) && !(decide (bl > 64)) && okG bl f n
/-- The first place of one in an order; else how many there are. -/
def firstN (q : Nat → Bool) : Nat → Nat
  | 0 => 0
  | m + 1 => cond (Nat.blt (firstN q m) m) (firstN q m) (cond (q m) m (m + 1))
def atF (g : Nat → Nat → AV) (x : Int) (m : Nat) : Nat := firstN (fun k => (g k 0).toI == x) m
def ordI (g : Nat → Nat → AV) (k : Nat) : Int := (g k 0).toI
def inR (n : Nat) (x : Int) : Bool := !(decide (x < 0)) && !(decide (x ≥ (n : Int)))
def okM (f : Nat → Nat → AV) (n : Nat) (g : Nat → Nat → AV) (m : Nat) : Bool := okFrom (fun i => !(mustO (opAt f i) && !(Nat.blt (atF g i m) m))) 0 n
def okW (f : Nat → Nat → AV) (n : Nat) (g : Nat → Nat → AV) (m : Nat) : Bool := okFrom (fun k => inR n (ordI g k) && Nat.beq (atF g (ordI g k) m) k && mayO (opAt f (ordI g k).toNat)) 0 m
def seenN (g : Nat → Nat → AV) (k i : Nat) : Bool := (List.range k).any fun j => ordI g j == (i : Int)
def seenA (g : Nat → Nat → AV) (k i _ : Nat) : AV := .bool (seenN g k i)
def okS (f : Nat → Nat → AV) (n : Nat) (g : Nat → Nat → AV) (m : Nat) : Bool := okFrom (fun k => inR n (ordI g k) && !(seenN g k (ordI g k).toNat) && mayO (opAt f (ordI g k).toNat)) 0 m
def okT (f : Nat → Nat → AV) (n : Nat) (sq : Nat → Nat → AV) : Bool := okFrom (fun i => !(mustO (opAt f i) && !((sq i 0).toB))) 0 n
def okZ (sq : Nat → Nat → AV) (n : Nat) : Bool := okFrom (fun i => !((sq i 0).toB)) 0 n
def okR (n : Nat) (g : Nat → Nat → AV) (m : Nat) : Bool := okFrom (fun k => inR n (ordI g k)) 0 m
/-- May the operations of an order be done on so many bytes? -/
def okD (f : Nat → Nat → AV) (n : Nat) (g : Nat → Nat → AV) (m L : Nat) : Bool := decide (L ≤ 1000) && okFrom (fun k => inR n (ordI g k) && (rngO (opAt f (ordI g k).toNat) && (decide (1 ≤ (opAt f (ordI g k).toNat).ct) && (decide (8 * ((opAt f (ordI g k).toNat).fr + (opAt f (ordI g k).toNat).ct) ≤ (L : Int)) && decide (((opAt f (ordI g k).toNat).d.length : Int) = 8 * (opAt f (ordI g k).toNat).ct))))) 0 m
/-- The bytes behind an operation; nothing: it does not tell them. -/
def doO (x : Opn) (s : List Nat) : Option (List Nat) := cond x.w (some (s.take (8 * x.fr).toNat ++ x.d ++ s.drop (8 * (x.fr + x.ct)).toNat)) (cond ((s.drop (8 * x.fr).toNat).take (8 * x.ct).toNat == x.d) (some s) none)
def dskF (f g : Nat → Nat → AV) (s : List Nat) : Nat → Option (List Nat)
  | 0 => some s
  | k + 1 => match dskF f g s k with
    | some t => doO (opAt f (ordI g k).toNat) t
    | none => none
def dskO (f g : Nat → Nat → AV) (m : Nat) (s : List Nat) : Option (List Nat) := dskF f g s m
def beforeO (x y : Opn) : Bool := y.e != 0 && decide (y.e ≤ x.b)
def okI (f g : Nat → Nat → AV) (m a : Nat) : Bool := okFrom (fun k => !(beforeO (opAt f (ordI g a).toNat) (opAt f (ordI g k).toNat))) (a + 1) (m - (a + 1))
def okJ (f g : Nat → Nat → AV) (m : Nat) : Bool := okFrom (fun a => okI f g m a) 0 m
/-- The last beginning up to one. -/
def lateF (f g : Nat → Nat → AV) : Nat → Int
  | 0 => 0
  | k + 1 => if (opAt f (ordI g k).toNat).b > lateF f g k then (opAt f (ordI g k).toNat).b else lateF f g k
def okB (f g : Nat → Nat → AV) (k : Nat) : Bool := !((opAt f (ordI g k).toNat).e != 0 && decide ((opAt f (ordI g k).toNat).e ≤ lateF f g k))
def witF (f g : Nat → Nat → AV) (m : Nat) (s : List Nat) : Bool := okFrom (fun k => okB f g k && (dskF f g s (k + 1)).isSome) 0 m
/-- The bytes behind all writes. -/
def dwF (f g : Nat → Nat → AV) (s : List Nat) : Nat → List Nat
  | 0 => s
  | k + 1 => (doO (opAt f (ordI g k).toNat) (dwF f g s k)).getD (dwF f g s k)
def dwO (f g : Nat → Nat → AV) (m : Nat) (s : List Nat) : List Nat := dwF f g s m
def blank (bl : Int) : List Nat := List.replicate (8 * bl).toNat 0
def vR (bl : Int) (f : Nat → Nat → AV) (n : Nat) (g : Nat → Nat → AV) (m : Nat) : Bool := gF bl f n && (okM f n g m && okW f n g m) && okJ f g m && (dskO f g m (blank bl)).isSome
def vW (bl : Int) (f : Nat → Nat → AV) (n : Nat) (g : Nat → Nat → AV) (m : Nat) : Bool := gF bl f n && (okS f n g m && okT f n (seenA g m)) && witF f g m (blank bl)
theorem okNVE : ∃ q : Nat → Bool, q = okN := ⟨_, rfl⟩
/-- As okN (not unfolded by the kernel). -/
noncomputable def okNV : Nat → Bool := Classical.choose okNVE
theorem okNV_eq : okNV = okN := Classical.choose_spec okNVE
theorem okLVE : ∃ q : (Nat → Nat → AV) → Nat → Bool, q = okL := ⟨_, rfl⟩
/-- As okL (not unfolded by the kernel). -/
noncomputable def okLV : (Nat → Nat → AV) → Nat → Bool := Classical.choose okLVE
theorem okLV_eq : okLV = okL := Classical.choose_spec okLVE
theorem okGVE : ∃ q : Int → (Nat → Nat → AV) → Nat → Bool, q = okG := ⟨_, rfl⟩
/-- As okG (not unfolded by the kernel). -/
noncomputable def okGV : Int → (Nat → Nat → AV) → Nat → Bool := Classical.choose okGVE
theorem okGV_eq : okGV = okG := Classical.choose_spec okGVE
theorem rngVE : ∃ q : (Nat → Nat → AV) → Nat → Bool, q = rngA := ⟨_, rfl⟩
/-- As rngA (not unfolded by the kernel). -/
noncomputable def rngV : (Nat → Nat → AV) → Nat → Bool := Classical.choose rngVE
theorem rngV_eq : rngV = rngA := Classical.choose_spec rngVE
theorem gVE : ∃ q : Int → (Nat → Nat → AV) → Nat → Bool, q = gF := ⟨_, rfl⟩
/-- As gF (not unfolded by the kernel). -/
noncomputable def gV : Int → (Nat → Nat → AV) → Nat → Bool := Classical.choose gVE
theorem gV_eq : gV = gF := Classical.choose_spec gVE
theorem atVE : ∃ q : (Nat → Nat → AV) → Int → Nat → Nat, q = atF := ⟨_, rfl⟩
/-- As atF (not unfolded by the kernel). -/
noncomputable def atV : (Nat → Nat → AV) → Int → Nat → Nat := Classical.choose atVE
theorem atV_eq : atV = atF := Classical.choose_spec atVE
theorem okMVE : ∃ q : (Nat → Nat → AV) → Nat → (Nat → Nat → AV) → Nat → Bool, q = okM := ⟨_, rfl⟩
/-- As okM (not unfolded by the kernel). -/
noncomputable def okMV : (Nat → Nat → AV) → Nat → (Nat → Nat → AV) → Nat → Bool := Classical.choose okMVE
theorem okMV_eq : okMV = okM := Classical.choose_spec okMVE
theorem okWVE : ∃ q : (Nat → Nat → AV) → Nat → (Nat → Nat → AV) → Nat → Bool, q = okW := ⟨_, rfl⟩
/-- As okW (not unfolded by the kernel). -/
noncomputable def okWV : (Nat → Nat → AV) → Nat → (Nat → Nat → AV) → Nat → Bool := Classical.choose okWVE
theorem okWV_eq : okWV = okW := Classical.choose_spec okWVE
theorem okSVE : ∃ q : (Nat → Nat → AV) → Nat → (Nat → Nat → AV) → Nat → Bool, q = okS := ⟨_, rfl⟩
/-- As okS (not unfolded by the kernel). -/
noncomputable def okSV : (Nat → Nat → AV) → Nat → (Nat → Nat → AV) → Nat → Bool := Classical.choose okSVE
theorem okSV_eq : okSV = okS := Classical.choose_spec okSVE
theorem seenVE : ∃ q : (Nat → Nat → AV) → Nat → Nat → Nat → AV, q = seenA := ⟨_, rfl⟩
/-- As seenA (not unfolded by the kernel). -/
noncomputable def seenV : (Nat → Nat → AV) → Nat → Nat → Nat → AV := Classical.choose seenVE
theorem seenV_eq : seenV = seenA := Classical.choose_spec seenVE
theorem okTVE : ∃ q : (Nat → Nat → AV) → Nat → (Nat → Nat → AV) → Bool, q = okT := ⟨_, rfl⟩
/-- As okT (not unfolded by the kernel). -/
noncomputable def okTV : (Nat → Nat → AV) → Nat → (Nat → Nat → AV) → Bool := Classical.choose okTVE
theorem okTV_eq : okTV = okT := Classical.choose_spec okTVE
theorem okZVE : ∃ q : (Nat → Nat → AV) → Nat → Bool, q = okZ := ⟨_, rfl⟩
/-- As okZ (not unfolded by the kernel). -/
noncomputable def okZV : (Nat → Nat → AV) → Nat → Bool := Classical.choose okZVE
theorem okZV_eq : okZV = okZ := Classical.choose_spec okZVE
theorem okRVE : ∃ q : Nat → (Nat → Nat → AV) → Nat → Bool, q = okR := ⟨_, rfl⟩
/-- As okR (not unfolded by the kernel). -/
noncomputable def okRV : Nat → (Nat → Nat → AV) → Nat → Bool := Classical.choose okRVE
theorem okRV_eq : okRV = okR := Classical.choose_spec okRVE
theorem okDVE : ∃ q : (Nat → Nat → AV) → Nat → (Nat → Nat → AV) → Nat → Nat → Bool, q = okD := ⟨_, rfl⟩
/-- As okD (not unfolded by the kernel). -/
noncomputable def okDV : (Nat → Nat → AV) → Nat → (Nat → Nat → AV) → Nat → Nat → Bool := Classical.choose okDVE
theorem okDV_eq : okDV = okD := Classical.choose_spec okDVE
theorem dskVE : ∃ q : (Nat → Nat → AV) → (Nat → Nat → AV) → Nat → List Nat → Option (List Nat), q = dskO := ⟨_, rfl⟩
/-- As dskO (not unfolded by the kernel). -/
noncomputable def dskV : (Nat → Nat → AV) → (Nat → Nat → AV) → Nat → List Nat → Option (List Nat) := Classical.choose dskVE
theorem dskV_eq : dskV = dskO := Classical.choose_spec dskVE
theorem okIVE : ∃ q : (Nat → Nat → AV) → (Nat → Nat → AV) → Nat → Nat → Bool, q = okI := ⟨_, rfl⟩
/-- As okI (not unfolded by the kernel). -/
noncomputable def okIV : (Nat → Nat → AV) → (Nat → Nat → AV) → Nat → Nat → Bool := Classical.choose okIVE
theorem okIV_eq : okIV = okI := Classical.choose_spec okIVE
theorem okJVE : ∃ q : (Nat → Nat → AV) → (Nat → Nat → AV) → Nat → Bool, q = okJ := ⟨_, rfl⟩
/-- As okJ (not unfolded by the kernel). -/
noncomputable def okJV : (Nat → Nat → AV) → (Nat → Nat → AV) → Nat → Bool := Classical.choose okJVE
theorem okJV_eq : okJV = okJ := Classical.choose_spec okJVE
theorem witVE : ∃ q : (Nat → Nat → AV) → (Nat → Nat → AV) → Nat → List Nat → Bool, q = witF := ⟨_, rfl⟩
/-- As witF (not unfolded by the kernel). -/
noncomputable def witV : (Nat → Nat → AV) → (Nat → Nat → AV) → Nat → List Nat → Bool := Classical.choose witVE
theorem witV_eq : witV = witF := Classical.choose_spec witVE
theorem dwVE : ∃ q : (Nat → Nat → AV) → (Nat → Nat → AV) → Nat → List Nat → List Nat, q = dwO := ⟨_, rfl⟩
/-- As dwO (not unfolded by the kernel). -/
noncomputable def dwV : (Nat → Nat → AV) → (Nat → Nat → AV) → Nat → List Nat → List Nat := Classical.choose dwVE
theorem dwV_eq : dwV = dwO := Classical.choose_spec dwVE
theorem blankVE : ∃ q : Int → List Nat, q = blank := ⟨_, rfl⟩
/-- As blank (not unfolded by the kernel). -/
noncomputable def blankV : Int → List Nat := Classical.choose blankVE
theorem blankV_eq : blankV = blank := Classical.choose_spec blankVE
theorem vRVE : ∃ q : Int → (Nat → Nat → AV) → Nat → (Nat → Nat → AV) → Nat → Bool, q = vR := ⟨_, rfl⟩
/-- As vR (not unfolded by the kernel). -/
noncomputable def vRV : Int → (Nat → Nat → AV) → Nat → (Nat → Nat → AV) → Nat → Bool := Classical.choose vRVE
theorem vRV_eq : vRV = vR := Classical.choose_spec vRVE
theorem vWVE : ∃ q : Int → (Nat → Nat → AV) → Nat → (Nat → Nat → AV) → Nat → Bool, q = vW := ⟨_, rfl⟩
/-- As vW (not unfolded by the kernel). -/
noncomputable def vWV : Int → (Nat → Nat → AV) → Nat → (Nat → Nat → AV) → Nat → Bool := Classical.choose vWVE
theorem vWV_eq : vWV = vW := Classical.choose_spec vWVE
def h4 : Pat := ⟨19, [(0, .asl shO), (5, .asl shO), (6, .keep), (7, .keep)], []⟩
def x4 : List (Ex × Pat) := [(.exit 0, ⟨19, [(0, .asl shO)], []⟩), (.ret, ⟨19, [(2, .keep)], []⟩)]
def h13 : Pat := ⟨69, [(1, .keep), (19, .asl shO), (20, .keep), (21, .keep)], []⟩
def x13 : List (Ex × Pat) := [(.exit 0, ⟨69, [], []⟩), (.ret, ⟨69, [(4, .keep)], []⟩)]
def h11 : Pat := ⟨83, [(0, .asl shO), (1, .keep), (5, .keep)], []⟩
def x11 : List (Ex × Pat) := [(.exit 0, ⟨83, [], []⟩), (.ret, ⟨83, [(4, .keep)], []⟩)]
def h18 : Pat := ⟨19, [(0, .asl shI), (1, .keep), (5, .keep)], []⟩
def x18 : List (Ex × Pat) := [(.exit 0, ⟨19, [], []⟩), (.ret, ⟨19, [(4, .keep)], []⟩)]
def h12a : Pat := ⟨82, [(0, .asl shO), (1, .asl shI), (5, .keep)], []⟩
def x12a : List (Ex × Pat) := [(.exit 0, ⟨82, [(0, .asl shO), (1, .asl shI)], []⟩), (.ret, ⟨82, [(4, .keep)], []⟩)]
def h12b : Pat := ⟨82, [(0, .asl shO), (1, .asl shI), (6, .keep)], []⟩
def x12b : List (Ex × Pat) := [(.exit 2, ⟨82, [], []⟩), (.ret, ⟨82, [(4, .keep)], []⟩)]
def h14a : Pat := ⟨62, [(0, .asl shO), (5, .asl shB), (13, .asl shI), (14, .keep), (15, .keep)], []⟩
def x14a : List (Ex × Pat) := [(.exit 0, ⟨62, [(0, .asl shO), (5, .asl shB)], []⟩), (.ret, ⟨62, [(4, .keep)], []⟩)]
def h14b : Pat := ⟨62, [(5, .asl shB), (45, .asl shO), (46, .keep), (47, .keep)], []⟩
def x14b : List (Ex × Pat) := [(.exit 2, ⟨62, [], []⟩), (.ret, ⟨62, [(4, .keep)], []⟩)]
def h7 : Pat := ⟨63, [(0, .asl shO), (2, .asl shI), (8, .keep), (9, .keep)], []⟩
def x7 : List (Ex × Pat) := [(.exit 0, ⟨63, [(8, .keep)], []⟩), (.ret, ⟨63, [(6, .keep), (7, .keep)], []⟩)]
def h6b : Pat := ⟨69, [(0, .asl shO), (1, .keep), (2, .asl shI), (7, .keep), (8, .keep)], []⟩
def x6b : List (Ex × Pat) := [(.exit 2, ⟨69, [(0, .asl shO), (1, .keep), (2, .asl shI), (7, .keep)], []⟩), (.ret, ⟨69, [(6, .keep)], []⟩)]
def h6a : Pat := ⟨69, [(0, .asl shO), (1, .keep), (2, .asl shI), (7, .keep)], []⟩
def x6a : List (Ex × Pat) := [(.exit 0, ⟨69, [(0, .asl shO), (1, .keep), (2, .asl shI)], []⟩), (.ret, ⟨69, [(6, .keep)], []⟩)]
def h8 : Pat := ⟨57, [(0, .asl shO), (7, .keep), (8, .keep), (25, .asl shI), (26, .keep), (27, .keep)], []⟩
def x8 : List (Ex × Pat) := [(.exit 0, ⟨57, [], []⟩), (.ret, ⟨57, [(6, .keep)], []⟩)]
def h9 : Pat := ⟨35, [(0, .asl shO), (7, .keep), (17, .asl shI), (18, .keep), (19, .keep)], []⟩
def x9 : List (Ex × Pat) := [(.exit 0, ⟨35, [(7, .keep)], []⟩)]
def c4 (nl : Bool) (n : Nat) (f : Nat → Nat → AV) (i : Nat) : CS :=
  ⟨[.osl nl 0 0 n n 8 true, .osl nl 0 0 n n 8 true, .int .i64 (n : Nat), .int .i64 (i : Nat)], [some (.tarr shO n f false)]⟩
noncomputable def r4B  (nl : Bool) (n : Nat) (f : Nat → Nat → AV) : T (Nat × CS) :=
  chkT [okNV n] (.ask (okLV f n) (.ret (1, ⟨[.osl nl 0 0 n n 8 true], [some (.tarr shO n f false)]⟩)) (.ret (2, ⟨[.bool false], []⟩)))
noncomputable def r4  (c : CS) : T (Nat × CS) := match c with
  | ⟨[.osl nl 0 0 n z_1 8 true, .osl z_2 0 0 z_3 z_4 8 true, .int .i64 z_5, .int .i64 z_6], [some (.tarr sh_7 z_8 f false)]⟩ => chkT [decide (n = z_1), decide (nl = z_2), decide (n = z_3), decide (n = z_4), decide ((n : Nat) = z_5), decide (0 = z_6), shBeq sh_7 shO, decide (n = z_8)] (r4B  nl n f)
  | _ => .fail
noncomputable def E2 : Env := addL E1 4 0 1000000 h4 x4 0 r4
def a4 (nl : Bool) (n : Nat) (f : Nat → Nat → AV) : CS :=
  ⟨[.osl nl 0 0 n n 8 true], [some (.tarr shO n f false)]⟩
noncomputable def f4B  (nl : Bool) (n : Nat) (f : Nat → Nat → AV) : T (CS) :=
  chkT [okNV n] (.ret ⟨[.bool (okLV f n && decide ((n : Int) ≤ 20))], []⟩)
noncomputable def f4  (c : CS) : T (CS) := match c with
  | ⟨[.osl nl 0 0 n z_1 8 true], [some (.tarr sh_2 z_3 f false)]⟩ => chkT [decide (n = z_1), shBeq sh_2 shO, decide (n = z_3)] (f4B  nl n f)
  | _ => .fail
noncomputable def E3 : Env := addF E2 4 ⟨frRun [.asl shO] [] f4⟩
def c13 (bl : Int) (nl : Bool) (n : Nat) (f : Nat → Nat → AV) (i : Nat) : CS :=
  ⟨[.int .u32 bl, .osl nl 0 0 n n 8 true, .int .i64 (n : Nat), .int .i64 (i : Nat)], [some (.tarr shO n f false)]⟩
noncomputable def r13B  (bl : Int) (nl : Bool) (n : Nat) (f : Nat → Nat → AV) : T (Nat × CS) :=
  chkT [Nat.ble n 1000, rngV f n, !(decide (bl < 1)), !(decide (bl > 64))] (.ask (okGV bl f n) (.ret (1, ⟨[], []⟩)) (.ret (2, ⟨[.bool false], []⟩)))
noncomputable def r13  (c : CS) : T (Nat × CS) := match c with
  | ⟨[.int .u32 bl, .osl nl 0 0 n z_1 8 true, .int .i64 z_2, .int .i64 z_3], [some (.tarr sh_4 z_5 f false)]⟩ => chkT [decide (n = z_1), decide ((n : Nat) = z_2), decide (0 = z_3), shBeq sh_4 shO, decide (n = z_5)] (r13B  bl nl n f)
  | _ => .fail
noncomputable def E4 : Env := addL E3 13 0 1000001 h13 x13 0 r13
def c11 (nl : Bool) (n : Nat) (f : Nat → Nat → AV) (bl : Int) (i : Nat) : CS :=
  ⟨[.osl nl 0 0 n n 8 true, .int .u32 bl, .int .i64 (i : Nat)], [some (.tarr shO n f false)]⟩
noncomputable def r11B  (nl : Bool) (n : Nat) (f : Nat → Nat → AV) (bl : Int) : T (Nat × CS) :=
  chkT [Nat.ble n 1000, rngV f n, !(decide (bl < 1)), !(decide (bl > 64))] (.ask (okGV bl f n) (.ret (1, ⟨[], []⟩)) (.ret (2, ⟨[.bool false], []⟩)))
noncomputable def r11  (c : CS) : T (Nat × CS) := match c with
  | ⟨[.osl nl 0 0 n z_1 8 true, .int .u32 bl, .int .i64 z_2], [some (.tarr sh_3 z_4 f false)]⟩ => chkT [decide (n = z_1), decide (0 = z_2), shBeq sh_3 shO, decide (n = z_4)] (r11B  nl n f bl)
  | _ => .fail
noncomputable def E5 : Env := addL E4 11 0 1000002 h11 x11 0 r11
def a13 (nl : Bool) (n : Nat) (f : Nat → Nat → AV) (bl : Int) : CS :=
  ⟨[.osl nl 0 0 n n 8 true, .int .u32 bl], [some (.tarr shO n f false)]⟩
noncomputable def f13B  (nl : Bool) (n : Nat) (f : Nat → Nat → AV) (bl : Int) : T (CS) :=
  chkT [rngV f n] (.ret ⟨[.bool (gV bl f n)], []⟩)
noncomputable def f13  (c : CS) : T (CS) := match c with
  | ⟨[.osl nl 0 0 n z_1 8 true, .int .u32 bl], [some (.tarr sh_2 z_3 f false)]⟩ => chkT [decide (n = z_1), shBeq sh_2 shO, decide (n = z_3)] (f13B  nl n f bl)
  | _ => .fail
noncomputable def E6 : Env := addF (addF E5 13 ⟨frRun [.asl shO, .keep] [] f13⟩) 11 ⟨frRun [.asl shO, .keep] [] f13⟩
def c18 (ol : Bool) (m : Nat) (g : Nat → Nat → AV) (x : Int) (i : Nat) : CS :=
  ⟨[.osl ol 0 0 m m 1 true, .int .i64 x, .int .i64 (i : Nat)], [some (.tarr shI m g false)]⟩
noncomputable def r18B  (ol : Bool) (m : Nat) (g : Nat → Nat → AV) (x : Int) : T (Nat × CS) :=
  chkT [Nat.ble m 1000] (.ask (Nat.blt (atV g x m) m) (.ret (2, ⟨[.int .i64 (atV g x m : Nat)], []⟩)) (.ret (1, ⟨[], []⟩)))
noncomputable def r18  (c : CS) : T (Nat × CS) := match c with
  | ⟨[.osl ol 0 0 m z_1 1 true, .int .i64 x, .int .i64 z_2], [some (.tarr sh_3 z_4 g false)]⟩ => chkT [decide (m = z_1), decide (0 = z_2), shBeq sh_3 shI, decide (m = z_4)] (r18B  ol m g x)
  | _ => .fail
noncomputable def E7 : Env := addL E6 18 0 1000003 h18 x18 0 r18
def a18 (ol : Bool) (m : Nat) (g : Nat → Nat → AV) (x : Int) : CS :=
  ⟨[.osl ol 0 0 m m 1 true, .int .i64 x], [some (.tarr shI m g false)]⟩
noncomputable def f18B  (ol : Bool) (m : Nat) (g : Nat → Nat → AV) (x : Int) : T (CS) :=
  chkT [Nat.ble m 1000] (.ask (Nat.blt (atV g x m) m) (.ret ⟨[.int .i64 (atV g x m : Nat)], []⟩) (.ret ⟨[.int .i64 (-1)], []⟩))
noncomputable def f18  (c : CS) : T (CS) := match c with
  | ⟨[.osl ol 0 0 m z_1 1 true, .int .i64 x], [some (.tarr sh_2 z_3 g false)]⟩ => chkT [decide (m = z_1), shBeq sh_2 shI, decide (m = z_3)] (f18B  ol m g x)
  | _ => .fail
noncomputable def E8 : Env := addF E7 18 ⟨frRun [.asl shI, .keep] [] f18⟩
def c12 (nl : Bool) (n : Nat) (f : Nat → Nat → AV) (ol : Bool) (m : Nat) (g : Nat → Nat → AV) (i : Nat) : CS :=
  ⟨[.osl nl 0 0 n n 8 true, .osl ol 1 0 m m 1 true, .int .i64 (i : Nat)], [some (.tarr shO n f false), some (.tarr shI m g false)]⟩
noncomputable def r12aB  (nl : Bool) (n : Nat) (f : Nat → Nat → AV) (ol : Bool) (m : Nat) (g : Nat → Nat → AV) : T (Nat × CS) :=
  chkT [Nat.ble n 1000, Nat.ble m 1000] (.ask (okMV f n g m) (.ret (1, ⟨[.osl nl 0 0 n n 8 true, .osl ol 1 0 m m 1 true], [some (.tarr shO n f false), some (.tarr shI m g false)]⟩)) (.ret (2, ⟨[.bool false], []⟩)))
noncomputable def r12a  (c : CS) : T (Nat × CS) := match c with
  | ⟨[.osl nl 0 0 n z_1 8 true, .osl ol 1 0 m z_2 1 true, .int .i64 z_3], [some (.tarr sh_4 z_5 f false), some (.tarr sh_6 z_7 g false)]⟩ => chkT [decide (n = z_1), decide (m = z_2), decide (0 = z_3), shBeq sh_4 shO, decide (n = z_5), shBeq sh_6 shI, decide (m = z_7)] (r12aB  nl n f ol m g)
  | _ => .fail
noncomputable def E9 : Env := addL E8 12 0 1000004 h12a x12a 0 r12a
noncomputable def r12bB  (nl : Bool) (n : Nat) (f : Nat → Nat → AV) (ol : Bool) (m : Nat) (g : Nat → Nat → AV) : T (Nat × CS) :=
  chkT [Nat.ble n 1000, Nat.ble m 1000] (.ask (okWV f n g m) (.ret (1, ⟨[], []⟩)) (.ret (2, ⟨[.bool false], []⟩)))
noncomputable def r12b  (c : CS) : T (Nat × CS) := match c with
  | ⟨[.osl nl 0 0 n z_1 8 true, .osl ol 1 0 m z_2 1 true, .int .i64 z_3], [some (.tarr sh_4 z_5 f false), some (.tarr sh_6 z_7 g false)]⟩ => chkT [decide (n = z_1), decide (m = z_2), decide (0 = z_3), shBeq sh_4 shO, decide (n = z_5), shBeq sh_6 shI, decide (m = z_7)] (r12bB  nl n f ol m g)
  | _ => .fail
noncomputable def EA : Env := addL E9 12 2 1000005 h12b x12b 0 r12b
def a12 (nl : Bool) (n : Nat) (f : Nat → Nat → AV) (ol : Bool) (m : Nat) (g : Nat → Nat → AV) : CS :=
  ⟨[.osl nl 0 0 n n 8 true, .osl ol 1 0 m m 1 true], [some (.tarr shO n f false), some (.tarr shI m g false)]⟩
noncomputable def f12B  (nl : Bool) (n : Nat) (f : Nat → Nat → AV) (ol : Bool) (m : Nat) (g : Nat → Nat → AV) : T (CS) :=
  chkT [Nat.ble n 1000, Nat.ble m 1000] (.ret ⟨[.bool (okMV f n g m && okWV f n g m)], []⟩)
noncomputable def f12  (c : CS) : T (CS) := match c with
  | ⟨[.osl nl 0 0 n z_1 8 true, .osl ol 1 0 m z_2 1 true], [some (.tarr sh_3 z_4 f false), some (.tarr sh_5 z_6 g false)]⟩ => chkT [decide (n = z_1), decide (m = z_2), shBeq sh_3 shO, decide (n = z_4), shBeq sh_5 shI, decide (m = z_6)] (f12B  nl n f ol m g)
  | _ => .fail
noncomputable def EB : Env := addF EA 12 ⟨frRun [.asl shO, .asl shI] [] f12⟩
def c14a (nl : Bool) (n : Nat) (f : Nat → Nat → AV) (sq : Nat → Nat → AV) (ol : Bool) (m : Nat) (g : Nat → Nat → AV) (i : Nat) : CS :=
  ⟨[.osl nl 0 0 n n 8 true, .osl false 1 0 n n 1 true, .osl ol 2 0 m m 1 true, .int .i64 (m : Nat), .int .i64 (i : Nat)], [some (.tarr shO n f false), some (.tarr shB n sq true), some (.tarr shI m g false)]⟩
noncomputable def r14aB  (nl : Bool) (n : Nat) (f : Nat → Nat → AV) (sq : Nat → Nat → AV) (ol : Bool) (m : Nat) (g : Nat → Nat → AV) : T (Nat × CS) :=
  chkT [Nat.ble n 1000, Nat.ble m 1000, okZV sq n] (.ask (okSV f n g m) (.ret (1, ⟨[.osl nl 0 0 n n 8 true, .osl false 1 0 n n 1 true], [some (.tarr shO n f false), some (.tarr shB n (seenV g m) true)]⟩)) (.ret (2, ⟨[.bool false], []⟩)))
noncomputable def r14a  (c : CS) : T (Nat × CS) := match c with
  | ⟨[.osl nl 0 0 n z_1 8 true, .osl z_2 1 0 z_3 z_4 1 true, .osl ol 2 0 m z_5 1 true, .int .i64 z_6, .int .i64 z_7], [some (.tarr sh_8 z_9 f false), some (.tarr sh_10 z_11 sq true), some (.tarr sh_12 z_13 g false)]⟩ => chkT [decide (n = z_1), decide (false = z_2), decide (n = z_3), decide (n = z_4), decide (m = z_5), decide ((m : Nat) = z_6), decide (0 = z_7), shBeq sh_8 shO, decide (n = z_9), shBeq sh_10 shB, decide (n = z_11), shBeq sh_12 shI, decide (m = z_13)] (r14aB  nl n f sq ol m g)
  | _ => .fail
noncomputable def EC : Env := addL EB 14 0 1000006 h14a x14a 0 r14a
def c14b (n : Nat) (sq : Nat → Nat → AV) (nl : Bool) (f : Nat → Nat → AV) (i : Nat) : CS :=
  ⟨[.osl false 0 0 n n 1 true, .osl nl 1 0 n n 8 true, .int .i64 (n : Nat), .int .i64 (i : Nat)], [some (.tarr shB n sq true), some (.tarr shO n f false)]⟩
noncomputable def r14bB  (n : Nat) (sq : Nat → Nat → AV) (nl : Bool) (f : Nat → Nat → AV) : T (Nat × CS) :=
  chkT [Nat.ble n 1000] (.ask (okTV f n sq) (.ret (1, ⟨[], []⟩)) (.ret (2, ⟨[.bool false], []⟩)))
noncomputable def r14b  (c : CS) : T (Nat × CS) := match c with
  | ⟨[.osl z_1 0 0 n z_2 1 true, .osl nl 1 0 z_3 z_4 8 true, .int .i64 z_5, .int .i64 z_6], [some (.tarr sh_7 z_8 sq true), some (.tarr sh_9 z_10 f false)]⟩ => chkT [decide (false = z_1), decide (n = z_2), decide (n = z_3), decide (n = z_4), decide ((n : Nat) = z_5), decide (0 = z_6), shBeq sh_7 shB, decide (n = z_8), shBeq sh_9 shO, decide (n = z_10)] (r14bB  n sq nl f)
  | _ => .fail
noncomputable def ED : Env := addL EC 14 2 1000007 h14b x14b 0 r14b
noncomputable def f14B  (nl : Bool) (n : Nat) (f : Nat → Nat → AV) (ol : Bool) (m : Nat) (g : Nat → Nat → AV) : T (CS) :=
  chkT [Nat.ble n 1000, Nat.ble m 1000] (.ret ⟨[.bool (okSV f n g m && okTV f n (seenV g m))], []⟩)
noncomputable def f14  (c : CS) : T (CS) := match c with
  | ⟨[.osl nl 0 0 n z_1 8 true, .osl ol 1 0 m z_2 1 true], [some (.tarr sh_3 z_4 f false), some (.tarr sh_5 z_6 g false)]⟩ => chkT [decide (n = z_1), decide (m = z_2), shBeq sh_3 shO, decide (n = z_4), shBeq sh_5 shI, decide (m = z_6)] (f14B  nl n f ol m g)
  | _ => .fail
noncomputable def EE : Env := addF ED 14 ⟨frRun [.asl shO, .asl shI] [] f14⟩
def c7 (nl : Bool) (n : Nat) (f : Nat → Nat → AV) (ol : Bool) (m : Nat) (g : Nat → Nat → AV) (s : List Nat) (i : Nat) : CS :=
  ⟨[.osl nl 0 0 n n 8 true, .osl ol 1 0 m m 1 true, .str s, .int .i64 (i : Nat)], [some (.tarr shO n f false), some (.tarr shI m g false)]⟩
noncomputable def r7B  (nl : Bool) (n : Nat) (f : Nat → Nat → AV) (ol : Bool) (m : Nat) (g : Nat → Nat → AV) (s : List Nat) : T (Nat × CS) :=
  chkT [Nat.ble n 1000, Nat.ble m 1000, okDV f n g m s.length] (.ask (dskV f g m s).isSome (.ret (1, ⟨[.str ((dskV f g m s).getD [])], []⟩)) (.ret (2, ⟨[.str [], .bool false], []⟩)))
noncomputable def r7  (c : CS) : T (Nat × CS) := match c with
  | ⟨[.osl nl 0 0 n z_1 8 true, .osl ol 1 0 m z_2 1 true, .str s, .int .i64 z_3], [some (.tarr sh_4 z_5 f false), some (.tarr sh_6 z_7 g false)]⟩ => chkT [decide (n = z_1), decide (m = z_2), decide (0 = z_3), shBeq sh_4 shO, decide (n = z_5), shBeq sh_6 shI, decide (m = z_7)] (r7B  nl n f ol m g s)
  | _ => .fail
noncomputable def EF : Env := addL EE 7 0 1000008 h7 x7 0 r7
def a7 (nl : Bool) (n : Nat) (f : Nat → Nat → AV) (bl : Int) (ol : Bool) (m : Nat) (g : Nat → Nat → AV) : CS :=
  ⟨[.osl nl 0 0 n n 8 true, .int .u32 bl, .osl ol 1 0 m m 1 true], [some (.tarr shO n f false), some (.tarr shI m g false)]⟩
noncomputable def f7B  (nl : Bool) (n : Nat) (f : Nat → Nat → AV) (bl : Int) (ol : Bool) (m : Nat) (g : Nat → Nat → AV) : T (CS) :=
  chkT [Nat.ble n 1000, Nat.ble m 1000, !(decide (bl < 1)), !(decide (bl > 64)), okDV f n g m (blankV bl).length] (.ask (dskV f g m (blankV bl)).isSome (.ret ⟨[.tuple [.str ((dskV f g m (blankV bl)).getD []), .bool true]], []⟩) (.ret ⟨[.tuple [.str [], .bool false]], []⟩))
noncomputable def f7  (c : CS) : T (CS) := match c with
  | ⟨[.osl nl 0 0 n z_1 8 true, .int .u32 bl, .osl ol 1 0 m z_2 1 true], [some (.tarr sh_3 z_4 f false), some (.tarr sh_5 z_6 g false)]⟩ => chkT [decide (n = z_1), decide (m = z_2), shBeq sh_3 shO, decide (n = z_4), shBeq sh_5 shI, decide (m = z_6)] (f7B  nl n f bl ol m g)
  | _ => .fail
noncomputable def EG : Env := addF EF 7 ⟨frRun [.asl shO, .keep, .asl shI] [] f7⟩
def c6b (nl : Bool) (n : Nat) (f : Nat → Nat → AV) (bl : Int) (ol : Bool) (m : Nat) (g : Nat → Nat → AV) (a : Nat) (i : Nat) : CS :=
  ⟨[.osl nl 0 0 n n 8 true, .int .u32 bl, .osl ol 1 0 m m 1 true, .int .i64 (a : Nat), .int .i64 (i : Nat)], [some (.tarr shO n f false), some (.tarr shI m g false)]⟩
noncomputable def r6bB  (nl : Bool) (n : Nat) (f : Nat → Nat → AV) (bl : Int) (ol : Bool) (m : Nat) (g : Nat → Nat → AV) (a : Nat) : T (Nat × CS) :=
  chkT [Nat.ble n 1000, Nat.ble m 1000, okRV n g m, Nat.blt a m] (.ask (okIV f g m a) (.ret (1, ⟨[.osl nl 0 0 n n 8 true, .int .u32 bl, .osl ol 1 0 m m 1 true, .int .i64 (a : Nat)], [some (.tarr shO n f false), some (.tarr shI m g false)]⟩)) (.ret (2, ⟨[.bool false], []⟩)))
noncomputable def r6b  (c : CS) : T (Nat × CS) := match c with
  | ⟨[.osl nl 0 0 n z_1 8 true, .int .u32 bl, .osl ol 1 0 m z_2 1 true, .int .i64 (.ofNat a), .int .i64 z_3], [some (.tarr sh_4 z_5 f false), some (.tarr sh_6 z_7 g false)]⟩ => chkT [decide (n = z_1), decide (m = z_2), decide ((a + 1) = z_3), shBeq sh_4 shO, decide (n = z_5), shBeq sh_6 shI, decide (m = z_7)] (r6bB  nl n f bl ol m g a)
  | _ => .fail
noncomputable def EH : Env := addL EG 6 2 1000009 h6b x6b 0 r6b
def c6a (nl : Bool) (n : Nat) (f : Nat → Nat → AV) (bl : Int) (ol : Bool) (m : Nat) (g : Nat → Nat → AV) (i : Nat) : CS :=
  ⟨[.osl nl 0 0 n n 8 true, .int .u32 bl, .osl ol 1 0 m m 1 true, .int .i64 (i : Nat)], [some (.tarr shO n f false), some (.tarr shI m g false)]⟩
noncomputable def r6aB  (nl : Bool) (n : Nat) (f : Nat → Nat → AV) (bl : Int) (ol : Bool) (m : Nat) (g : Nat → Nat → AV) : T (Nat × CS) :=
  chkT [Nat.ble n 1000, Nat.ble m 1000, okRV n g m] (.ask (okJV f g m) (.ret (1, ⟨[.osl nl 0 0 n n 8 true, .int .u32 bl, .osl ol 1 0 m m 1 true], [some (.tarr shO n f false), some (.tarr shI m g false)]⟩)) (.ret (2, ⟨[.bool false], []⟩)))
noncomputable def r6a  (c : CS) : T (Nat × CS) := match c with
  | ⟨[.osl nl 0 0 n z_1 8 true, .int .u32 bl, .osl ol 1 0 m z_2 1 true, .int .i64 z_3], [some (.tarr sh_4 z_5 f false), some (.tarr sh_6 z_7 g false)]⟩ => chkT [decide (n = z_1), decide (m = z_2), decide (0 = z_3), shBeq sh_4 shO, decide (n = z_5), shBeq sh_6 shI, decide (m = z_7)] (r6aB  nl n f bl ol m g)
  | _ => .fail
noncomputable def EI : Env := addL EH 6 0 1000010 h6a x6a 0 r6a
noncomputable def f6B  (nl : Bool) (n : Nat) (f : Nat → Nat → AV) (bl : Int) (ol : Bool) (m : Nat) (g : Nat → Nat → AV) : T (CS) :=
  chkT [rngV f n, Nat.ble n 1000, Nat.ble m 1000] (.ret ⟨[.bool (vRV bl f n g m)], []⟩)
noncomputable def f6  (c : CS) : T (CS) := match c with
  | ⟨[.osl nl 0 0 n z_1 8 true, .int .u32 bl, .osl ol 1 0 m z_2 1 true], [some (.tarr sh_3 z_4 f false), some (.tarr sh_5 z_6 g false)]⟩ => chkT [decide (n = z_1), decide (m = z_2), shBeq sh_3 shO, decide (n = z_4), shBeq sh_5 shI, decide (m = z_6)] (f6B  nl n f bl ol m g)
  | _ => .fail
noncomputable def EJ : Env := addF EI 6 ⟨frRun [.asl shO, .keep, .asl shI] [] f6⟩
def c8 (nl : Bool) (n : Nat) (f : Nat → Nat → AV) (s : List Nat) (lt : Int) (ol : Bool) (m : Nat) (g : Nat → Nat → AV) (i : Nat) : CS :=
  ⟨[.osl nl 0 0 n n 8 true, .ptr 1 0, .int .i64 lt, .osl ol 2 0 m m 1 true, .int .i64 (m : Nat), .int .i64 (i : Nat)], [some (.tarr shO n f false), some (.cells [.int .u64 0, .int .u64 0, .str s, .int .u64 0, .int .u16 0, .int .u64 0, .int .u16 0, .int .u64 0, .int .u16 0, .int .u64 0, .int .u16 0, .int .u64 0, .int .u16 0, .int .u64 0, .int .u16 0, .int .u64 0, .int .u16 0, .int .u64 0, .int .u16 0] true), some (.tarr shI m g false)]⟩
noncomputable def r8B  (nl : Bool) (n : Nat) (f : Nat → Nat → AV) (s : List Nat) (ol : Bool) (m : Nat) (g : Nat → Nat → AV) : T (Nat × CS) :=
  chkT [Nat.ble n 1000, Nat.ble m 1000, okDV f n g m s.length] (.ask (witV f g m s) (.ret (1, ⟨[], []⟩)) (.ret (2, ⟨[.bool false], []⟩)))
noncomputable def r8  (c : CS) : T (Nat × CS) := match c with
  | ⟨[.osl nl 0 0 n z_1 8 true, .ptr 1 0, .int .i64 z_2, .osl ol 2 0 m z_3 1 true, .int .i64 z_4, .int .i64 z_5], [some (.tarr sh_6 z_7 f false), some (.cells [.int .u64 z_8, .int .u64 z_9, .str s, .int .u64 z_10, .int .u16 z_11, .int .u64 z_12, .int .u16 z_13, .int .u64 z_14, .int .u16 z_15, .int .u64 z_16, .int .u16 z_17, .int .u64 z_18, .int .u16 z_19, .int .u64 z_20, .int .u16 z_21, .int .u64 z_22, .int .u16 z_23, .int .u64 z_24, .int .u16 z_25] true), some (.tarr sh_26 z_27 g false)]⟩ => chkT [decide (n = z_1), decide (0 = z_2), decide (m = z_3), decide ((m : Nat) = z_4), decide (0 = z_5), shBeq sh_6 shO, decide (n = z_7), decide (0 = z_8), decide (0 = z_9), decide (0 = z_10), decide (0 = z_11), decide (0 = z_12), decide (0 = z_13), decide (0 = z_14), decide (0 = z_15), decide (0 = z_16), decide (0 = z_17), decide (0 = z_18), decide (0 = z_19), decide (0 = z_20), decide (0 = z_21), decide (0 = z_22), decide (0 = z_23), decide (0 = z_24), decide (0 = z_25), shBeq sh_26 shI, decide (m = z_27)] (r8B  nl n f s ol m g)
  | _ => .fail
noncomputable def EK : Env := addL EJ 8 0 1000011 h8 x8 0 r8
noncomputable def f8B  (nl : Bool) (n : Nat) (f : Nat → Nat → AV) (bl : Int) (ol : Bool) (m : Nat) (g : Nat → Nat → AV) : T (CS) :=
  chkT [rngV f n, Nat.ble n 1000, Nat.ble m 1000] (.ret ⟨[.bool (vWV bl f n g m)], []⟩)
noncomputable def f8  (c : CS) : T (CS) := match c with
  | ⟨[.osl nl 0 0 n z_1 8 true, .int .u32 bl, .osl ol 1 0 m z_2 1 true], [some (.tarr sh_3 z_4 f false), some (.tarr sh_5 z_6 g false)]⟩ => chkT [decide (n = z_1), decide (m = z_2), shBeq sh_3 shO, decide (n = z_4), shBeq sh_5 shI, decide (m = z_6)] (f8B  nl n f bl ol m g)
  | _ => .fail
noncomputable def EL : Env := addF EK 8 ⟨frRun [.asl shO, .keep, .asl shI] [] f8⟩
def c9 (nl : Bool) (n : Nat) (f : Nat → Nat → AV) (s : List Nat) (ol : Bool) (m : Nat) (g : Nat → Nat → AV) (i : Nat) : CS :=
  ⟨[.osl nl 0 0 n n 8 true, .ptr 1 0, .osl ol 2 0 m m 1 true, .int .i64 (m : Nat), .int .i64 (i : Nat)], [some (.tarr shO n f false), some (.cells [.int .u64 0, .int .u64 0, .str s, .int .u64 0, .int .u16 0, .int .u64 0, .int .u16 0, .int .u64 0, .int .u16 0, .int .u64 0, .int .u16 0, .int .u64 0, .int .u16 0, .int .u64 0, .int .u16 0, .int .u64 0, .int .u16 0, .int .u64 0, .int .u16 0] true), some (.tarr shI m g false)]⟩
noncomputable def r9B  (nl : Bool) (n : Nat) (f : Nat → Nat → AV) (s : List Nat) (ol : Bool) (m : Nat) (g : Nat → Nat → AV) : T (Nat × CS) :=
  chkT [Nat.ble n 1000, Nat.ble m 1000, okDV f n g m s.length] (.ret (1, ⟨[.ptr 0 0], [some (.cells [.int .u64 0, .int .u64 0, .str (dwV f g m s), .int .u64 0, .int .u16 0, .int .u64 0, .int .u16 0, .int .u64 0, .int .u16 0, .int .u64 0, .int .u16 0, .int .u64 0, .int .u16 0, .int .u64 0, .int .u16 0, .int .u64 0, .int .u16 0, .int .u64 0, .int .u16 0] true)]⟩))
noncomputable def r9  (c : CS) : T (Nat × CS) := match c with
  | ⟨[.osl nl 0 0 n z_1 8 true, .ptr 1 0, .osl ol 2 0 m z_2 1 true, .int .i64 z_3, .int .i64 z_4], [some (.tarr sh_5 z_6 f false), some (.cells [.int .u64 z_7, .int .u64 z_8, .str s, .int .u64 z_9, .int .u16 z_10, .int .u64 z_11, .int .u16 z_12, .int .u64 z_13, .int .u16 z_14, .int .u64 z_15, .int .u16 z_16, .int .u64 z_17, .int .u16 z_18, .int .u64 z_19, .int .u16 z_20, .int .u64 z_21, .int .u16 z_22, .int .u64 z_23, .int .u16 z_24] true), some (.tarr sh_25 z_26 g false)]⟩ => chkT [decide (n = z_1), decide (m = z_2), decide ((m : Nat) = z_3), decide (0 = z_4), shBeq sh_5 shO, decide (n = z_6), decide (0 = z_7), decide (0 = z_8), decide (0 = z_9), decide (0 = z_10), decide (0 = z_11), decide (0 = z_12), decide (0 = z_13), decide (0 = z_14), decide (0 = z_15), decide (0 = z_16), decide (0 = z_17), decide (0 = z_18), decide (0 = z_19), decide (0 = z_20), decide (0 = z_21), decide (0 = z_22), decide (0 = z_23), decide (0 = z_24), shBeq sh_25 shI, decide (m = z_26)] (r9B  nl n f s ol m g)
  | _ => .fail
noncomputable def EM : Env := addL EL 9 0 1000012 h9 x9 0 r9
noncomputable def f9B  (nl : Bool) (n : Nat) (f : Nat → Nat → AV) (bl : Int) (ol : Bool) (m : Nat) (g : Nat → Nat → AV) : T (CS) :=
  chkT [rngV f n, Nat.ble n 1000, Nat.ble m 1000] (.ask (vWV bl f n g m) (.ret ⟨[.str (dwV f g m (blankV bl))], []⟩) (.ret ⟨[.str []], []⟩))
noncomputable def f9  (c : CS) : T (CS) := match c with
  | ⟨[.osl nl 0 0 n z_1 8 true, .int .u32 bl, .osl ol 1 0 m z_2 1 true], [some (.tarr sh_3 z_4 f false), some (.tarr sh_5 z_6 g false)]⟩ => chkT [decide (n = z_1), decide (m = z_2), shBeq sh_3 shO, decide (n = z_4), shBeq sh_5 shI, decide (m = z_6)] (f9B  nl n f bl ol m g)
  | _ => .fail
noncomputable def EN : Env := addF (addF EM 9 ⟨frRun [.asl shO, .keep, .asl shI] [] f9⟩) 5 livesI
noncomputable def s4 (nl : Bool) (n : Nat) (f : Nat → Nat → AV) (i : Nat) (π : Plan) : Option (Nat × CS) := stepC (E1) (400) (loopC E1 4 0) (0) (h4) ((.normal, h4) :: x4) π (c4 nl n f i)
def s4_p : Plan := (.fork (.reck 1 (.must true (.fork (.fork .stop .stop) .stop))) .stop)
theorem s4_is (nl : Bool) (n : Nat) (f : Nat → Nat → AV) (i : Nat) : s4 nl n f i s4_p = (cond (decide ((↑i : Int) < (↑n : Int)))
  (cond (decide ((↑i : Int) < (↑n : Int))) (cond (Nat.blt (0 + Int.toNat (↑i : Int)) n)
  (cond (decide ((↑(List.length (AV.toS (f (0 + Int.toNat (↑i : Int)) (4)))) : Int) > 1000))
  (some (2, (CS.mk [(AV.bool (false))] [])))
  (some (0, (CS.mk [(AV.osl (nl) (0) (0) (n) (n) (8) (true)), (AV.osl (nl) (0) (0) (n) (n) (8) (true)), (AV.int IntKind.i64 ((↑n : Int))), (AV.int IntKind.i64 (IntKind.wrap IntKind.i64 ((↑i : Int) + 1)))] [some (AObj.tarr [Sh.int IntKind.u64, Sh.bool, Sh.int IntKind.u32, Sh.int IntKind.u32, Sh.str, Sh.int IntKind.i64, Sh.int IntKind.i64, Sh.bool] (n) f false)]))))
  none) none)
  (some (1, (CS.mk [(AV.osl (nl) (0) (0) (n) (n) (8) (true))] [some (AObj.tarr [Sh.int IntKind.u64, Sh.bool, Sh.int IntKind.u32, Sh.int IntKind.u32, Sh.str, Sh.int IntKind.i64, Sh.int IntKind.i64, Sh.bool] (n) f false)])))) := by kernel_rfl
theorem s4_eq (nl : Bool) (n : Nat) (f : Nat → Nat → AV) (i : Nat) : s4 nl n f i s4_p = (cond (decide ((↑i : Int) < (↑n : Int)))
  (cond (Nat.blt (0 + Int.toNat (↑i : Int)) n)
  (cond (decide ((↑(List.length (AV.toS (f (0 + Int.toNat (↑i : Int)) (4)))) : Int) > 1000))
  (some (2, (CS.mk [(AV.bool (false))] [])))
  (some (0, (CS.mk [(AV.osl (nl) (0) (0) (n) (n) (8) (true)), (AV.osl (nl) (0) (0) (n) (n) (8) (true)), (AV.int IntKind.i64 ((↑n : Int))), (AV.int IntKind.i64 (IntKind.wrap IntKind.i64 ((↑i : Int) + 1)))] [some (AObj.tarr [Sh.int IntKind.u64, Sh.bool, Sh.int IntKind.u32, Sh.int IntKind.u32, Sh.str, Sh.int IntKind.i64, Sh.int IntKind.i64, Sh.bool] (n) f false)]))))
  none)
  (some (1, (CS.mk [(AV.osl (nl) (0) (0) (n) (n) (8) (true))] [some (AObj.tarr [Sh.int IntKind.u64, Sh.bool, Sh.int IntKind.u32, Sh.int IntKind.u32, Sh.str, Sh.int IntKind.i64, Sh.int IntKind.i64, Sh.bool] (n) f false)])))) := by
  rw [s4_is]
  try simp only [eq_self, decide_true, beq_self_eq_true, Nat.beq_refl, ble_self, Int.le_refl, Nat.le_refl]
  cases (decide ((↑i : Int) < (↑n : Int))) with
  | true =>
    cases (Nat.blt (0 + Int.toNat (↑i : Int)) n) with
    | true =>
      cases (decide ((↑(List.length (AV.toS (f (0 + Int.toNat (↑i : Int)) (4)))) : Int) > 1000)) with
      | true =>
        rfl
      | false =>
        rfl
    | false =>
      rfl
  | false =>
    rfl

noncomputable def k4 (nl : Bool) (n : Nat) (f : Nat → Nat → AV) (π : Plan) : Option CS := callC (E2) (1500) (4) (0) (.keep) ([]) π (a4 nl n f)
def k4_p : Plan := (.must true (.must true (.must true (.must true (.must true (.reck 2 (.must true (.fork (.fork .stop .stop) .stop))))))))
theorem k4_is (nl : Bool) (n : Nat) (f : Nat → Nat → AV) : k4 nl n f k4_p = (cond (decide (n = n)) (cond (decide (nl = nl)) (cond (decide (n = n)) (cond (decide (n = n)) (cond (decide ((↑n : Int) = (↑n : Int))) (cond (decide (n = n)) (cond (okNV n)
  (cond ((okLV f (n)))
  (some (CS.mk [(AV.bool (decide ((↑n : Int) ≤ 20)))] []))
  (some (CS.mk [(AV.bool (false))] [])))
  none) none) none) none) none) none) none) := by kernel_rfl
theorem k4_eq (nl : Bool) (n : Nat) (f : Nat → Nat → AV) : k4 nl n f k4_p = (cond (okNV n)
  (cond (okLV f (n))
  (some (CS.mk [(AV.bool (decide ((↑n : Int) ≤ 20)))] []))
  (some (CS.mk [(AV.bool (false))] [])))
  none) := by
  rw [k4_is]
  try simp only [eq_self, decide_true, beq_self_eq_true, Nat.beq_refl, ble_self, Int.le_refl, Nat.le_refl]
  cases (okNV n) with
  | true =>
    cases (okLV f (n)) with
    | true =>
      rfl
    | false =>
      rfl
  | false =>
    rfl

noncomputable def s13 (bl : Int) (nl : Bool) (n : Nat) (f : Nat → Nat → AV) (i : Nat) (π : Plan) : Option (Nat × CS) := stepC (E3) (400) (loopC E3 13 0) (0) (h13) ((.normal, h13) :: x13) π (c13 bl nl n f i)
def s13_p : Plan := (.fork (.reck 1 (.must true (.fork (.fork (.must true (.must true (.must false (.fork (.must true (.must true (.must true (.must true (.must true (.fork (.must true (.must true (.must false (.fork (.must true (.must true (.must true (.fork (.must true (.must true (.must true (.must true (.must true (.must true (.must false (.fork .stop (.must true (.must true (.must true (.must true (.must true (.must true (.must true (.must true (.must true (.must true (.fork .stop .stop))))))))))))))))))) (.must false (.must false (.must false (.must false (.must true (.must false (.must false (.reck 1 (.must false (.must false (.must false (.must false (.must false (.must false (.must false (.must false (.must false (.must false .stop)))))))))))))))))))))) (.must false (.must false (.must false (.must false (.must true .stop))))))))) (.must false (.must false (.must true .stop))))))))) (.must false (.must false (.must false (.must false (.must false .stop))))))))) (.must false (.must false (.must true (.fork (.must true (.must true (.must true (.must true (.must true (.fork (.must true (.must true (.must false (.fork (.must true (.must true (.must true (.fork (.must true (.must true (.must true (.must true (.must true (.must true (.must false (.fork .stop (.reck 10 (.fork .stop .stop)))))))))) (.must false (.must false (.must false (.must false (.must true (.must false (.must false (.reck 11 (.fork .stop .stop))))))))))))) (.must false (.must false (.must false (.must false (.must true .stop))))))))) (.must false (.must false (.must true .stop))))))))) (.must false (.must false (.must false (.must false (.must false .stop)))))))))) .stop))) .stop)
theorem s13_is (bl : Int) (nl : Bool) (n : Nat) (f : Nat → Nat → AV) (i : Nat) : s13 bl nl n f i s13_p = (cond (decide ((↑i : Int) < (↑n : Int)))
  (cond (decide ((↑i : Int) < (↑n : Int))) (cond (Nat.blt (0 + Int.toNat (↑i : Int)) n)
  (cond (AV.toB (f (0 + Int.toNat (↑i : Int)) (1)) == false)
  (cond (AV.toB (f (0 + Int.toNat (↑i : Int)) (1)) == false) (cond (AV.toB (f (0 + Int.toNat (↑i : Int)) (1)) == false) (cond (AV.toB (f (0 + Int.toNat (↑i : Int)) (1))) none (cond (decide (AV.toI (f (0 + Int.toNat (↑i : Int)) (3)) > 0) == true)
  (cond (decide (AV.toI (f (0 + Int.toNat (↑i : Int)) (3)) > 0) == true) (cond (decide (AV.toI (f (0 + Int.toNat (↑i : Int)) (3)) > 0) == true) (cond (decide (AV.toI (f (0 + Int.toNat (↑i : Int)) (3)) > 0) == true) (cond (decide (AV.toI (f (0 + Int.toNat (↑i : Int)) (3)) > 0) == true) (cond (decide (AV.toI (f (0 + Int.toNat (↑i : Int)) (3)) > 0)) (cond ((!decide (IntKind.wrap IntKind.u64 (IntKind.wrap IntKind.u64 (AV.toI (f (0 + Int.toNat (↑i : Int)) (2))) + IntKind.wrap IntKind.u64 (AV.toI (f (0 + Int.toNat (↑i : Int)) (3)))) ≤ IntKind.wrap IntKind.u64 bl)) == false)
  (cond ((!decide (IntKind.wrap IntKind.u64 (IntKind.wrap IntKind.u64 (AV.toI (f (0 + Int.toNat (↑i : Int)) (2))) + IntKind.wrap IntKind.u64 (AV.toI (f (0 + Int.toNat (↑i : Int)) (3)))) ≤ IntKind.wrap IntKind.u64 bl)) == false) (cond ((!decide (IntKind.wrap IntKind.u64 (IntKind.wrap IntKind.u64 (AV.toI (f (0 + Int.toNat (↑i : Int)) (2))) + IntKind.wrap IntKind.u64 (AV.toI (f (0 + Int.toNat (↑i : Int)) (3)))) ≤ IntKind.wrap IntKind.u64 bl)) == false) (cond (!decide (IntKind.wrap IntKind.u64 (IntKind.wrap IntKind.u64 (AV.toI (f (0 + Int.toNat (↑i : Int)) (2))) + IntKind.wrap IntKind.u64 (AV.toI (f (0 + Int.toNat (↑i : Int)) (3)))) ≤ IntKind.wrap IntKind.u64 bl)) none (cond (decide (AV.toI (f (0 + Int.toNat (↑i : Int)) (5)) < 0) == false)
  (cond (decide (AV.toI (f (0 + Int.toNat (↑i : Int)) (5)) < 0) == false) (cond (decide (AV.toI (f (0 + Int.toNat (↑i : Int)) (5)) < 0) == false) (cond (decide (AV.toI (f (0 + Int.toNat (↑i : Int)) (5)) < 0) == false) (cond ((AV.toI (f (0 + Int.toNat (↑i : Int)) (6)) != 0) == true)
  (cond ((AV.toI (f (0 + Int.toNat (↑i : Int)) (6)) != 0) == true) (cond ((AV.toI (f (0 + Int.toNat (↑i : Int)) (6)) != 0) == true) (cond ((AV.toI (f (0 + Int.toNat (↑i : Int)) (6)) != 0) == true) (cond ((AV.toI (f (0 + Int.toNat (↑i : Int)) (6)) != 0) == true) (cond (decide (AV.toI (f (0 + Int.toNat (↑i : Int)) (5)) < 0) == false) (cond (AV.toI (f (0 + Int.toNat (↑i : Int)) (6)) != 0) (cond (decide (AV.toI (f (0 + Int.toNat (↑i : Int)) (5)) < 0)) none (cond (decide (AV.toI (f (0 + Int.toNat (↑i : Int)) (6)) ≤ AV.toI (f (0 + Int.toNat (↑i : Int)) (5))))
  (some (2, (CS.mk [(AV.bool (false))] [])))
  (cond ((AV.toI (f (0 + Int.toNat (↑i : Int)) (6)) != 0) == true) (cond ((AV.toI (f (0 + Int.toNat (↑i : Int)) (6)) != 0) == true) (cond ((AV.toI (f (0 + Int.toNat (↑i : Int)) (6)) != 0) == true) (cond ((AV.toI (f (0 + Int.toNat (↑i : Int)) (6)) != 0) == true) (cond ((AV.toI (f (0 + Int.toNat (↑i : Int)) (6)) != 0) == true) (cond ((AV.toI (f (0 + Int.toNat (↑i : Int)) (6)) != 0) == true) (cond ((AV.toI (f (0 + Int.toNat (↑i : Int)) (6)) != 0) == true) (cond ((AV.toI (f (0 + Int.toNat (↑i : Int)) (6)) != 0) == true) (cond ((AV.toI (f (0 + Int.toNat (↑i : Int)) (6)) != 0) == true) (cond (AV.toI (f (0 + Int.toNat (↑i : Int)) (6)) != 0) (cond ((↑(List.length (AV.toS (f (0 + Int.toNat (↑i : Int)) (4)))) : Int) != IntKind.wrap IntKind.i64 (8 * IntKind.wrap IntKind.i64 (AV.toI (f (0 + Int.toNat (↑i : Int)) (3)))))
  (some (2, (CS.mk [(AV.bool (false))] [])))
  (some (0, (CS.mk [(AV.int IntKind.u32 (bl)), (AV.osl (nl) (0) (0) (n) (n) (8) (true)), (AV.int IntKind.i64 ((↑n : Int))), (AV.int IntKind.i64 (IntKind.wrap IntKind.i64 ((↑i : Int) + 1)))] [some (AObj.tarr [Sh.int IntKind.u64, Sh.bool, Sh.int IntKind.u32, Sh.int IntKind.u32, Sh.str, Sh.int IntKind.i64, Sh.int IntKind.i64, Sh.bool] (n) f false)])))) none) none) none) none) none) none) none) none) none) none))) none) none) none) none) none) none)
  (cond ((AV.toI (f (0 + Int.toNat (↑i : Int)) (6)) != 0) == true) none (cond ((AV.toI (f (0 + Int.toNat (↑i : Int)) (6)) != 0) == true) none (cond ((AV.toI (f (0 + Int.toNat (↑i : Int)) (6)) != 0) == true) none (cond ((AV.toI (f (0 + Int.toNat (↑i : Int)) (6)) != 0) == true) none (cond (decide (AV.toI (f (0 + Int.toNat (↑i : Int)) (5)) < 0) == false) (cond (AV.toI (f (0 + Int.toNat (↑i : Int)) (6)) != 0) none (cond (decide (AV.toI (f (0 + Int.toNat (↑i : Int)) (5)) < 0)) none (cond ((AV.toI (f (0 + Int.toNat (↑i : Int)) (6)) != 0) == true) none (cond ((AV.toI (f (0 + Int.toNat (↑i : Int)) (6)) != 0) == true) none (cond ((AV.toI (f (0 + Int.toNat (↑i : Int)) (6)) != 0) == true) none (cond ((AV.toI (f (0 + Int.toNat (↑i : Int)) (6)) != 0) == true) none (cond ((AV.toI (f (0 + Int.toNat (↑i : Int)) (6)) != 0) == true) none (cond ((AV.toI (f (0 + Int.toNat (↑i : Int)) (6)) != 0) == true) none (cond ((AV.toI (f (0 + Int.toNat (↑i : Int)) (6)) != 0) == true) none (cond ((AV.toI (f (0 + Int.toNat (↑i : Int)) (6)) != 0) == true) none (cond ((AV.toI (f (0 + Int.toNat (↑i : Int)) (6)) != 0) == true) none (cond (AV.toI (f (0 + Int.toNat (↑i : Int)) (6)) != 0) none (some (0, (CS.mk [(AV.int IntKind.u32 (bl)), (AV.osl (nl) (0) (0) (n) (n) (8) (true)), (AV.int IntKind.i64 ((↑n : Int))), (AV.int IntKind.i64 (IntKind.wrap IntKind.i64 ((↑i : Int) + 1)))] [some (AObj.tarr [Sh.int IntKind.u64, Sh.bool, Sh.int IntKind.u32, Sh.int IntKind.u32, Sh.str, Sh.int IntKind.i64, Sh.int IntKind.i64, Sh.bool] (n) f false)]))))))))))))))) none)))))) none) none) none)
  (cond (decide (AV.toI (f (0 + Int.toNat (↑i : Int)) (5)) < 0) == false) none (cond (decide (AV.toI (f (0 + Int.toNat (↑i : Int)) (5)) < 0) == false) none (cond (decide (AV.toI (f (0 + Int.toNat (↑i : Int)) (5)) < 0) == false) none (cond (decide (AV.toI (f (0 + Int.toNat (↑i : Int)) (5)) < 0) == false) none (cond (decide (AV.toI (f (0 + Int.toNat (↑i : Int)) (5)) < 0)) (some (2, (CS.mk [(AV.bool (false))] []))) none))))))) none) none)
  (cond ((!decide (IntKind.wrap IntKind.u64 (IntKind.wrap IntKind.u64 (AV.toI (f (0 + Int.toNat (↑i : Int)) (2))) + IntKind.wrap IntKind.u64 (AV.toI (f (0 + Int.toNat (↑i : Int)) (3)))) ≤ IntKind.wrap IntKind.u64 bl)) == false) none (cond ((!decide (IntKind.wrap IntKind.u64 (IntKind.wrap IntKind.u64 (AV.toI (f (0 + Int.toNat (↑i : Int)) (2))) + IntKind.wrap IntKind.u64 (AV.toI (f (0 + Int.toNat (↑i : Int)) (3)))) ≤ IntKind.wrap IntKind.u64 bl)) == false) none (cond (!decide (IntKind.wrap IntKind.u64 (IntKind.wrap IntKind.u64 (AV.toI (f (0 + Int.toNat (↑i : Int)) (2))) + IntKind.wrap IntKind.u64 (AV.toI (f (0 + Int.toNat (↑i : Int)) (3)))) ≤ IntKind.wrap IntKind.u64 bl)) (some (2, (CS.mk [(AV.bool (false))] []))) none)))) none) none) none) none) none)
  (cond (decide (AV.toI (f (0 + Int.toNat (↑i : Int)) (3)) > 0) == true) none (cond (decide (AV.toI (f (0 + Int.toNat (↑i : Int)) (3)) > 0) == true) none (cond (decide (AV.toI (f (0 + Int.toNat (↑i : Int)) (3)) > 0) == true) none (cond (decide (AV.toI (f (0 + Int.toNat (↑i : Int)) (3)) > 0) == true) none (cond (decide (AV.toI (f (0 + Int.toNat (↑i : Int)) (3)) > 0)) none (some (2, (CS.mk [(AV.bool (false))] [])))))))))) none) none)
  (cond (AV.toB (f (0 + Int.toNat (↑i : Int)) (1)) == false) none (cond (AV.toB (f (0 + Int.toNat (↑i : Int)) (1)) == false) none (cond (AV.toB (f (0 + Int.toNat (↑i : Int)) (1))) (cond (decide (AV.toI (f (0 + Int.toNat (↑i : Int)) (3)) > 0) == true)
  (cond (decide (AV.toI (f (0 + Int.toNat (↑i : Int)) (3)) > 0) == true) (cond (decide (AV.toI (f (0 + Int.toNat (↑i : Int)) (3)) > 0) == true) (cond (decide (AV.toI (f (0 + Int.toNat (↑i : Int)) (3)) > 0) == true) (cond (decide (AV.toI (f (0 + Int.toNat (↑i : Int)) (3)) > 0) == true) (cond (decide (AV.toI (f (0 + Int.toNat (↑i : Int)) (3)) > 0)) (cond ((!decide (IntKind.wrap IntKind.u64 (IntKind.wrap IntKind.u64 (AV.toI (f (0 + Int.toNat (↑i : Int)) (2))) + IntKind.wrap IntKind.u64 (AV.toI (f (0 + Int.toNat (↑i : Int)) (3)))) ≤ IntKind.wrap IntKind.u64 bl)) == false)
  (cond ((!decide (IntKind.wrap IntKind.u64 (IntKind.wrap IntKind.u64 (AV.toI (f (0 + Int.toNat (↑i : Int)) (2))) + IntKind.wrap IntKind.u64 (AV.toI (f (0 + Int.toNat (↑i : Int)) (3)))) ≤ IntKind.wrap IntKind.u64 bl)) == false) (cond ((!decide (IntKind.wrap IntKind.u64 (IntKind.wrap IntKind.u64 (AV.toI (f (0 + Int.toNat (↑i : Int)) (2))) + IntKind.wrap IntKind.u64 (AV.toI (f (0 + Int.toNat (↑i : Int)) (3)))) ≤ IntKind.wrap IntKind.u64 bl)) == false) (cond (!decide (IntKind.wrap IntKind.u64 (IntKind.wrap IntKind.u64 (AV.toI (f (0 + Int.toNat (↑i : Int)) (2))) + IntKind.wrap IntKind.u64 (AV.toI (f (0 + Int.toNat (↑i : Int)) (3)))) ≤ IntKind.wrap IntKind.u64 bl)) none (cond (decide (AV.toI (f (0 + Int.toNat (↑i : Int)) (5)) < 0) == false)
  (cond (decide (AV.toI (f (0 + Int.toNat (↑i : Int)) (5)) < 0) == false) (cond (decide (AV.toI (f (0 + Int.toNat (↑i : Int)) (5)) < 0) == false) (cond (decide (AV.toI (f (0 + Int.toNat (↑i : Int)) (5)) < 0) == false) (cond ((AV.toI (f (0 + Int.toNat (↑i : Int)) (6)) != 0) == true)
  (cond ((AV.toI (f (0 + Int.toNat (↑i : Int)) (6)) != 0) == true) (cond ((AV.toI (f (0 + Int.toNat (↑i : Int)) (6)) != 0) == true) (cond ((AV.toI (f (0 + Int.toNat (↑i : Int)) (6)) != 0) == true) (cond ((AV.toI (f (0 + Int.toNat (↑i : Int)) (6)) != 0) == true) (cond (decide (AV.toI (f (0 + Int.toNat (↑i : Int)) (5)) < 0) == false) (cond (AV.toI (f (0 + Int.toNat (↑i : Int)) (6)) != 0) (cond (decide (AV.toI (f (0 + Int.toNat (↑i : Int)) (5)) < 0)) none (cond (decide (AV.toI (f (0 + Int.toNat (↑i : Int)) (6)) ≤ AV.toI (f (0 + Int.toNat (↑i : Int)) (5))))
  (some (2, (CS.mk [(AV.bool (false))] [])))
  (cond ((↑(List.length (AV.toS (f (0 + Int.toNat (↑i : Int)) (4)))) : Int) != IntKind.wrap IntKind.i64 (8 * IntKind.wrap IntKind.i64 (AV.toI (f (0 + Int.toNat (↑i : Int)) (3)))))
  (some (2, (CS.mk [(AV.bool (false))] [])))
  (some (0, (CS.mk [(AV.int IntKind.u32 (bl)), (AV.osl (nl) (0) (0) (n) (n) (8) (true)), (AV.int IntKind.i64 ((↑n : Int))), (AV.int IntKind.i64 (IntKind.wrap IntKind.i64 ((↑i : Int) + 1)))] [some (AObj.tarr [Sh.int IntKind.u64, Sh.bool, Sh.int IntKind.u32, Sh.int IntKind.u32, Sh.str, Sh.int IntKind.i64, Sh.int IntKind.i64, Sh.bool] (n) f false)])))))) none) none) none) none) none) none)
  (cond ((AV.toI (f (0 + Int.toNat (↑i : Int)) (6)) != 0) == true) none (cond ((AV.toI (f (0 + Int.toNat (↑i : Int)) (6)) != 0) == true) none (cond ((AV.toI (f (0 + Int.toNat (↑i : Int)) (6)) != 0) == true) none (cond ((AV.toI (f (0 + Int.toNat (↑i : Int)) (6)) != 0) == true) none (cond (decide (AV.toI (f (0 + Int.toNat (↑i : Int)) (5)) < 0) == false) (cond (AV.toI (f (0 + Int.toNat (↑i : Int)) (6)) != 0) none (cond (decide (AV.toI (f (0 + Int.toNat (↑i : Int)) (5)) < 0)) none (cond ((↑(List.length (AV.toS (f (0 + Int.toNat (↑i : Int)) (4)))) : Int) != IntKind.wrap IntKind.i64 (8 * IntKind.wrap IntKind.i64 (AV.toI (f (0 + Int.toNat (↑i : Int)) (3)))))
  (some (2, (CS.mk [(AV.bool (false))] [])))
  (some (0, (CS.mk [(AV.int IntKind.u32 (bl)), (AV.osl (nl) (0) (0) (n) (n) (8) (true)), (AV.int IntKind.i64 ((↑n : Int))), (AV.int IntKind.i64 (IntKind.wrap IntKind.i64 ((↑i : Int) + 1)))] [some (AObj.tarr [Sh.int IntKind.u64, Sh.bool, Sh.int IntKind.u32, Sh.int IntKind.u32, Sh.str, Sh.int IntKind.i64, Sh.int IntKind.i64, Sh.bool] (n) f false)])))))) none)))))) none) none) none)
  (cond (decide (AV.toI (f (0 + Int.toNat (↑i : Int)) (5)) < 0) == false) none (cond (decide (AV.toI (f (0 + Int.toNat (↑i : Int)) (5)) < 0) == false) none (cond (decide (AV.toI (f (0 + Int.toNat (↑i : Int)) (5)) < 0) == false) none (cond (decide (AV.toI (f (0 + Int.toNat (↑i : Int)) (5)) < 0) == false) none (cond (decide (AV.toI (f (0 + Int.toNat (↑i : Int)) (5)) < 0)) (some (2, (CS.mk [(AV.bool (false))] []))) none))))))) none) none)
  (cond ((!decide (IntKind.wrap IntKind.u64 (IntKind.wrap IntKind.u64 (AV.toI (f (0 + Int.toNat (↑i : Int)) (2))) + IntKind.wrap IntKind.u64 (AV.toI (f (0 + Int.toNat (↑i : Int)) (3)))) ≤ IntKind.wrap IntKind.u64 bl)) == false) none (cond ((!decide (IntKind.wrap IntKind.u64 (IntKind.wrap IntKind.u64 (AV.toI (f (0 + Int.toNat (↑i : Int)) (2))) + IntKind.wrap IntKind.u64 (AV.toI (f (0 + Int.toNat (↑i : Int)) (3)))) ≤ IntKind.wrap IntKind.u64 bl)) == false) none (cond (!decide (IntKind.wrap IntKind.u64 (IntKind.wrap IntKind.u64 (AV.toI (f (0 + Int.toNat (↑i : Int)) (2))) + IntKind.wrap IntKind.u64 (AV.toI (f (0 + Int.toNat (↑i : Int)) (3)))) ≤ IntKind.wrap IntKind.u64 bl)) (some (2, (CS.mk [(AV.bool (false))] []))) none)))) none) none) none) none) none)
  (cond (decide (AV.toI (f (0 + Int.toNat (↑i : Int)) (3)) > 0) == true) none (cond (decide (AV.toI (f (0 + Int.toNat (↑i : Int)) (3)) > 0) == true) none (cond (decide (AV.toI (f (0 + Int.toNat (↑i : Int)) (3)) > 0) == true) none (cond (decide (AV.toI (f (0 + Int.toNat (↑i : Int)) (3)) > 0) == true) none (cond (decide (AV.toI (f (0 + Int.toNat (↑i : Int)) (3)) > 0)) none (some (2, (CS.mk [(AV.bool (false))] []))))))))) none))))
  none) none)
  (some (1, (CS.mk [] [])))) := by kernel_rfl
theorem s13_eq (bl : Int) (nl : Bool) (n : Nat) (f : Nat → Nat → AV) (i : Nat) : s13 bl nl n f i s13_p = (cond (decide ((↑i : Int) < (↑n : Int)))
  (cond (Nat.blt (0 + Int.toNat (↑i : Int)) n)
  (cond (AV.toB (f (0 + Int.toNat (↑i : Int)) (1)))
  (cond (decide (AV.toI (f (0 + Int.toNat (↑i : Int)) (3)) > 0))
  (cond (decide (IntKind.wrap IntKind.u64 (IntKind.wrap IntKind.u64 (AV.toI (f (0 + Int.toNat (↑i : Int)) (2))) + IntKind.wrap IntKind.u64 (AV.toI (f (0 + Int.toNat (↑i : Int)) (3)))) ≤ IntKind.wrap IntKind.u64 bl))
  (cond (decide (AV.toI (f (0 + Int.toNat (↑i : Int)) (5)) < 0))
  (some (2, (CS.mk [(AV.bool (false))] [])))
  (cond (AV.toI (f (0 + Int.toNat (↑i : Int)) (6)) != 0)
  (cond (decide (AV.toI (f (0 + Int.toNat (↑i : Int)) (6)) ≤ AV.toI (f (0 + Int.toNat (↑i : Int)) (5))))
  (some (2, (CS.mk [(AV.bool (false))] [])))
  (cond ((↑(List.length (AV.toS (f (0 + Int.toNat (↑i : Int)) (4)))) : Int) != IntKind.wrap IntKind.i64 (8 * IntKind.wrap IntKind.i64 (AV.toI (f (0 + Int.toNat (↑i : Int)) (3)))))
  (some (2, (CS.mk [(AV.bool (false))] [])))
  (some (0, (CS.mk [(AV.int IntKind.u32 (bl)), (AV.osl (nl) (0) (0) (n) (n) (8) (true)), (AV.int IntKind.i64 ((↑n : Int))), (AV.int IntKind.i64 (IntKind.wrap IntKind.i64 ((↑i : Int) + 1)))] [some (AObj.tarr [Sh.int IntKind.u64, Sh.bool, Sh.int IntKind.u32, Sh.int IntKind.u32, Sh.str, Sh.int IntKind.i64, Sh.int IntKind.i64, Sh.bool] (n) f false)])))))
  (cond ((↑(List.length (AV.toS (f (0 + Int.toNat (↑i : Int)) (4)))) : Int) != IntKind.wrap IntKind.i64 (8 * IntKind.wrap IntKind.i64 (AV.toI (f (0 + Int.toNat (↑i : Int)) (3)))))
  (some (2, (CS.mk [(AV.bool (false))] [])))
  (some (0, (CS.mk [(AV.int IntKind.u32 (bl)), (AV.osl (nl) (0) (0) (n) (n) (8) (true)), (AV.int IntKind.i64 ((↑n : Int))), (AV.int IntKind.i64 (IntKind.wrap IntKind.i64 ((↑i : Int) + 1)))] [some (AObj.tarr [Sh.int IntKind.u64, Sh.bool, Sh.int IntKind.u32, Sh.int IntKind.u32, Sh.str, Sh.int IntKind.i64, Sh.int IntKind.i64, Sh.bool] (n) f false)]))))))
  (some (2, (CS.mk [(AV.bool (false))] []))))
  (some (2, (CS.mk [(AV.bool (false))] []))))
  (cond (decide (AV.toI (f (0 + Int.toNat (↑i : Int)) (3)) > 0))
  (cond (decide (IntKind.wrap IntKind.u64 (IntKind.wrap IntKind.u64 (AV.toI (f (0 + Int.toNat (↑i : Int)) (2))) + IntKind.wrap IntKind.u64 (AV.toI (f (0 + Int.toNat (↑i : Int)) (3)))) ≤ IntKind.wrap IntKind.u64 bl))
  (cond (decide (AV.toI (f (0 + Int.toNat (↑i : Int)) (5)) < 0))
  (some (2, (CS.mk [(AV.bool (false))] [])))
  (cond (AV.toI (f (0 + Int.toNat (↑i : Int)) (6)) != 0)
  (cond (decide (AV.toI (f (0 + Int.toNat (↑i : Int)) (6)) ≤ AV.toI (f (0 + Int.toNat (↑i : Int)) (5))))
  (some (2, (CS.mk [(AV.bool (false))] [])))
  (cond ((↑(List.length (AV.toS (f (0 + Int.toNat (↑i : Int)) (4)))) : Int) != IntKind.wrap IntKind.i64 (8 * IntKind.wrap IntKind.i64 (AV.toI (f (0 + Int.toNat (↑i : Int)) (3)))))
  (some (2, (CS.mk [(AV.bool (false))] [])))
  (some (0, (CS.mk [(AV.int IntKind.u32 (bl)), (AV.osl (nl) (0) (0) (n) (n) (8) (true)), (AV.int IntKind.i64 ((↑n : Int))), (AV.int IntKind.i64 (IntKind.wrap IntKind.i64 ((↑i : Int) + 1)))] [some (AObj.tarr [Sh.int IntKind.u64, Sh.bool, Sh.int IntKind.u32, Sh.int IntKind.u32, Sh.str, Sh.int IntKind.i64, Sh.int IntKind.i64, Sh.bool] (n) f false)])))))
  (some (0, (CS.mk [(AV.int IntKind.u32 (bl)), (AV.osl (nl) (0) (0) (n) (n) (8) (true)), (AV.int IntKind.i64 ((↑n : Int))), (AV.int IntKind.i64 (IntKind.wrap IntKind.i64 ((↑i : Int) + 1)))] [some (AObj.tarr [Sh.int IntKind.u64, Sh.bool, Sh.int IntKind.u32, Sh.int IntKind.u32, Sh.str, Sh.int IntKind.i64, Sh.int IntKind.i64, Sh.bool] (n) f false)])))))
  (some (2, (CS.mk [(AV.bool (false))] []))))
  (some (2, (CS.mk [(AV.bool (false))] [])))))
  none)
  (some (1, (CS.mk [] [])))) := by
  rw [s13_is]
  try simp only [eq_self, decide_true, beq_self_eq_true, Nat.beq_refl, ble_self, Int.le_refl, Nat.le_refl]
  cases (decide ((↑i : Int) < (↑n : Int))) with
  | true =>
    cases (Nat.blt (0 + Int.toNat (↑i : Int)) n) with
    | true =>
      cases (AV.toB (f (0 + Int.toNat (↑i : Int)) (1))) with
      | true =>
        cases (decide (AV.toI (f (0 + Int.toNat (↑i : Int)) (3)) > 0)) with
        | true =>
          cases (decide (IntKind.wrap IntKind.u64 (IntKind.wrap IntKind.u64 (AV.toI (f (0 + Int.toNat (↑i : Int)) (2))) + IntKind.wrap IntKind.u64 (AV.toI (f (0 + Int.toNat (↑i : Int)) (3)))) ≤ IntKind.wrap IntKind.u64 bl)) with
          | true =>
            cases (decide (AV.toI (f (0 + Int.toNat (↑i : Int)) (5)) < 0)) with
            | true =>
              rfl
            | false =>
              cases (AV.toI (f (0 + Int.toNat (↑i : Int)) (6)) != 0) with
              | true =>
                cases (decide (AV.toI (f (0 + Int.toNat (↑i : Int)) (6)) ≤ AV.toI (f (0 + Int.toNat (↑i : Int)) (5)))) with
                | true =>
                  rfl
                | false =>
                  cases ((↑(List.length (AV.toS (f (0 + Int.toNat (↑i : Int)) (4)))) : Int) != IntKind.wrap IntKind.i64 (8 * IntKind.wrap IntKind.i64 (AV.toI (f (0 + Int.toNat (↑i : Int)) (3))))) with
                  | true =>
                    rfl
                  | false =>
                    rfl
              | false =>
                cases ((↑(List.length (AV.toS (f (0 + Int.toNat (↑i : Int)) (4)))) : Int) != IntKind.wrap IntKind.i64 (8 * IntKind.wrap IntKind.i64 (AV.toI (f (0 + Int.toNat (↑i : Int)) (3))))) with
                | true =>
                  rfl
                | false =>
                  rfl
          | false =>
            rfl
        | false =>
          rfl
      | false =>
        cases (decide (AV.toI (f (0 + Int.toNat (↑i : Int)) (3)) > 0)) with
        | true =>
          cases (decide (IntKind.wrap IntKind.u64 (IntKind.wrap IntKind.u64 (AV.toI (f (0 + Int.toNat (↑i : Int)) (2))) + IntKind.wrap IntKind.u64 (AV.toI (f (0 + Int.toNat (↑i : Int)) (3)))) ≤ IntKind.wrap IntKind.u64 bl)) with
          | true =>
            cases (decide (AV.toI (f (0 + Int.toNat (↑i : Int)) (5)) < 0)) with
            | true =>
              rfl
            | false =>
              cases (AV.toI (f (0 + Int.toNat (↑i : Int)) (6)) != 0) with
              | true =>
                cases (decide (AV.toI (f (0 + Int.toNat (↑i : Int)) (6)) ≤ AV.toI (f (0 + Int.toNat (↑i : Int)) (5)))) with
                | true =>
                  rfl
                | false =>
                  cases ((↑(List.length (AV.toS (f (0 + Int.toNat (↑i : Int)) (4)))) : Int) != IntKind.wrap IntKind.i64 (8 * IntKind.wrap IntKind.i64 (AV.toI (f (0 + Int.toNat (↑i : Int)) (3))))) with
                  | true =>
                    rfl
                  | false =>
                    rfl
              | false =>
                rfl
          | false =>
            rfl
        | false =>
          rfl
    | false =>
      rfl
  | false =>
    rfl

noncomputable def s11 (nl : Bool) (n : Nat) (f : Nat → Nat → AV) (bl : Int) (i : Nat) (π : Plan) : Option (Nat × CS) := stepC (E4) (400) (loopC E4 11 0) (0) (h11) ((.normal, h11) :: x11) π (c11 nl n f bl i)
def s11_p : Plan := (.fork (.reck 1 (.must true (.fork (.fork (.must true (.must true (.must true (.must false (.fork (.must true (.must true (.must false (.fork (.must true (.must true (.must true (.fork (.must true (.must true (.must true (.must true (.must true (.must true (.must false (.fork .stop (.fork (.must true (.must true (.must false (.must true (.must true (.must true (.must true (.must true (.must true (.must true (.must true (.must true (.must true (.fork .stop .stop)))))))))))))) (.must false (.must false (.must true (.reck 10 (.fork .stop .stop)))))))))))))) (.must false (.must false (.must false (.must false (.must true (.must false (.must false (.reck 1 (.fork (.must true (.must true (.must false (.must false (.must false (.must false (.must false (.must false (.must false (.must false (.must false (.must false (.must false .stop))))))))))))) (.must false (.must false (.must true (.reck 10 (.fork .stop .stop)))))))))))))))))) (.must false (.must false (.must false (.must false (.must true .stop))))))))) (.must false (.must false (.must true .stop)))))))) (.must false (.must false (.must false (.must true .stop))))) .stop))) .stop)
theorem s11_is (nl : Bool) (n : Nat) (f : Nat → Nat → AV) (bl : Int) (i : Nat) : s11 nl n f bl i s11_p = (cond (decide ((↑i : Int) < (↑n : Int)))
  (cond (decide ((↑i : Int) < (↑n : Int))) (cond (Nat.blt (0 + Int.toNat (↑i : Int)) n)
  (cond (decide (AV.toI (f (0 + Int.toNat (↑i : Int)) (3)) < 1) == false)
  (cond (decide (AV.toI (f (0 + Int.toNat (↑i : Int)) (3)) < 1) == false) (cond (decide (AV.toI (f (0 + Int.toNat (↑i : Int)) (3)) < 1) == false) (cond (decide (AV.toI (f (0 + Int.toNat (↑i : Int)) (3)) < 1) == false) (cond (decide (AV.toI (f (0 + Int.toNat (↑i : Int)) (3)) < 1)) none (cond (decide (IntKind.wrap IntKind.u64 (IntKind.wrap IntKind.u64 (AV.toI (f (0 + Int.toNat (↑i : Int)) (2))) + IntKind.wrap IntKind.u64 (AV.toI (f (0 + Int.toNat (↑i : Int)) (3)))) > IntKind.wrap IntKind.u64 bl) == false)
  (cond (decide (IntKind.wrap IntKind.u64 (IntKind.wrap IntKind.u64 (AV.toI (f (0 + Int.toNat (↑i : Int)) (2))) + IntKind.wrap IntKind.u64 (AV.toI (f (0 + Int.toNat (↑i : Int)) (3)))) > IntKind.wrap IntKind.u64 bl) == false) (cond (decide (IntKind.wrap IntKind.u64 (IntKind.wrap IntKind.u64 (AV.toI (f (0 + Int.toNat (↑i : Int)) (2))) + IntKind.wrap IntKind.u64 (AV.toI (f (0 + Int.toNat (↑i : Int)) (3)))) > IntKind.wrap IntKind.u64 bl) == false) (cond (decide (IntKind.wrap IntKind.u64 (IntKind.wrap IntKind.u64 (AV.toI (f (0 + Int.toNat (↑i : Int)) (2))) + IntKind.wrap IntKind.u64 (AV.toI (f (0 + Int.toNat (↑i : Int)) (3)))) > IntKind.wrap IntKind.u64 bl)) none (cond (decide (AV.toI (f (0 + Int.toNat (↑i : Int)) (5)) < 0) == false)
  (cond (decide (AV.toI (f (0 + Int.toNat (↑i : Int)) (5)) < 0) == false) (cond (decide (AV.toI (f (0 + Int.toNat (↑i : Int)) (5)) < 0) == false) (cond (decide (AV.toI (f (0 + Int.toNat (↑i : Int)) (5)) < 0) == false) (cond ((AV.toI (f (0 + Int.toNat (↑i : Int)) (6)) != 0) == true)
  (cond ((AV.toI (f (0 + Int.toNat (↑i : Int)) (6)) != 0) == true) (cond ((AV.toI (f (0 + Int.toNat (↑i : Int)) (6)) != 0) == true) (cond ((AV.toI (f (0 + Int.toNat (↑i : Int)) (6)) != 0) == true) (cond ((AV.toI (f (0 + Int.toNat (↑i : Int)) (6)) != 0) == true) (cond (decide (AV.toI (f (0 + Int.toNat (↑i : Int)) (5)) < 0) == false) (cond (AV.toI (f (0 + Int.toNat (↑i : Int)) (6)) != 0) (cond (decide (AV.toI (f (0 + Int.toNat (↑i : Int)) (5)) < 0)) none (cond (decide (AV.toI (f (0 + Int.toNat (↑i : Int)) (6)) ≤ AV.toI (f (0 + Int.toNat (↑i : Int)) (5))))
  (some (2, (CS.mk [(AV.bool (false))] [])))
  (cond (AV.toB (f (0 + Int.toNat (↑i : Int)) (1)) == false)
  (cond (AV.toB (f (0 + Int.toNat (↑i : Int)) (1)) == false) (cond (AV.toB (f (0 + Int.toNat (↑i : Int)) (1)) == false) (cond (AV.toB (f (0 + Int.toNat (↑i : Int)) (1))) none (cond ((AV.toI (f (0 + Int.toNat (↑i : Int)) (6)) != 0) == true) (cond ((AV.toI (f (0 + Int.toNat (↑i : Int)) (6)) != 0) == true) (cond ((AV.toI (f (0 + Int.toNat (↑i : Int)) (6)) != 0) == true) (cond ((AV.toI (f (0 + Int.toNat (↑i : Int)) (6)) != 0) == true) (cond ((AV.toI (f (0 + Int.toNat (↑i : Int)) (6)) != 0) == true) (cond ((AV.toI (f (0 + Int.toNat (↑i : Int)) (6)) != 0) == true) (cond ((AV.toI (f (0 + Int.toNat (↑i : Int)) (6)) != 0) == true) (cond ((AV.toI (f (0 + Int.toNat (↑i : Int)) (6)) != 0) == true) (cond ((AV.toI (f (0 + Int.toNat (↑i : Int)) (6)) != 0) == true) (cond (AV.toI (f (0 + Int.toNat (↑i : Int)) (6)) != 0) (cond ((↑(List.length (AV.toS (f (0 + Int.toNat (↑i : Int)) (4)))) : Int) != IntKind.wrap IntKind.i64 (8 * IntKind.wrap IntKind.i64 (AV.toI (f (0 + Int.toNat (↑i : Int)) (3)))))
  (some (2, (CS.mk [(AV.bool (false))] [])))
  (some (0, (CS.mk [(AV.osl (nl) (0) (0) (n) (n) (8) (true)), (AV.int IntKind.u32 (bl)), (AV.int IntKind.i64 (IntKind.wrap IntKind.i64 ((↑i : Int) + 1)))] [some (AObj.tarr [Sh.int IntKind.u64, Sh.bool, Sh.int IntKind.u32, Sh.int IntKind.u32, Sh.str, Sh.int IntKind.i64, Sh.int IntKind.i64, Sh.bool] (n) f false)])))) none) none) none) none) none) none) none) none) none) none)) none) none)
  (cond (AV.toB (f (0 + Int.toNat (↑i : Int)) (1)) == false) none (cond (AV.toB (f (0 + Int.toNat (↑i : Int)) (1)) == false) none (cond (AV.toB (f (0 + Int.toNat (↑i : Int)) (1))) (cond ((↑(List.length (AV.toS (f (0 + Int.toNat (↑i : Int)) (4)))) : Int) != IntKind.wrap IntKind.i64 (8 * IntKind.wrap IntKind.i64 (AV.toI (f (0 + Int.toNat (↑i : Int)) (3)))))
  (some (2, (CS.mk [(AV.bool (false))] [])))
  (some (0, (CS.mk [(AV.osl (nl) (0) (0) (n) (n) (8) (true)), (AV.int IntKind.u32 (bl)), (AV.int IntKind.i64 (IntKind.wrap IntKind.i64 ((↑i : Int) + 1)))] [some (AObj.tarr [Sh.int IntKind.u64, Sh.bool, Sh.int IntKind.u32, Sh.int IntKind.u32, Sh.str, Sh.int IntKind.i64, Sh.int IntKind.i64, Sh.bool] (n) f false)])))) none)))))) none) none) none) none) none) none)
  (cond ((AV.toI (f (0 + Int.toNat (↑i : Int)) (6)) != 0) == true) none (cond ((AV.toI (f (0 + Int.toNat (↑i : Int)) (6)) != 0) == true) none (cond ((AV.toI (f (0 + Int.toNat (↑i : Int)) (6)) != 0) == true) none (cond ((AV.toI (f (0 + Int.toNat (↑i : Int)) (6)) != 0) == true) none (cond (decide (AV.toI (f (0 + Int.toNat (↑i : Int)) (5)) < 0) == false) (cond (AV.toI (f (0 + Int.toNat (↑i : Int)) (6)) != 0) none (cond (decide (AV.toI (f (0 + Int.toNat (↑i : Int)) (5)) < 0)) none (cond (AV.toB (f (0 + Int.toNat (↑i : Int)) (1)) == false)
  (cond (AV.toB (f (0 + Int.toNat (↑i : Int)) (1)) == false) (cond (AV.toB (f (0 + Int.toNat (↑i : Int)) (1)) == false) (cond (AV.toB (f (0 + Int.toNat (↑i : Int)) (1))) none (cond ((AV.toI (f (0 + Int.toNat (↑i : Int)) (6)) != 0) == true) none (cond ((AV.toI (f (0 + Int.toNat (↑i : Int)) (6)) != 0) == true) none (cond ((AV.toI (f (0 + Int.toNat (↑i : Int)) (6)) != 0) == true) none (cond ((AV.toI (f (0 + Int.toNat (↑i : Int)) (6)) != 0) == true) none (cond ((AV.toI (f (0 + Int.toNat (↑i : Int)) (6)) != 0) == true) none (cond ((AV.toI (f (0 + Int.toNat (↑i : Int)) (6)) != 0) == true) none (cond ((AV.toI (f (0 + Int.toNat (↑i : Int)) (6)) != 0) == true) none (cond ((AV.toI (f (0 + Int.toNat (↑i : Int)) (6)) != 0) == true) none (cond ((AV.toI (f (0 + Int.toNat (↑i : Int)) (6)) != 0) == true) none (cond (AV.toI (f (0 + Int.toNat (↑i : Int)) (6)) != 0) none (some (0, (CS.mk [(AV.osl (nl) (0) (0) (n) (n) (8) (true)), (AV.int IntKind.u32 (bl)), (AV.int IntKind.i64 (IntKind.wrap IntKind.i64 ((↑i : Int) + 1)))] [some (AObj.tarr [Sh.int IntKind.u64, Sh.bool, Sh.int IntKind.u32, Sh.int IntKind.u32, Sh.str, Sh.int IntKind.i64, Sh.int IntKind.i64, Sh.bool] (n) f false)])))))))))))))) none) none)
  (cond (AV.toB (f (0 + Int.toNat (↑i : Int)) (1)) == false) none (cond (AV.toB (f (0 + Int.toNat (↑i : Int)) (1)) == false) none (cond (AV.toB (f (0 + Int.toNat (↑i : Int)) (1))) (cond ((↑(List.length (AV.toS (f (0 + Int.toNat (↑i : Int)) (4)))) : Int) != IntKind.wrap IntKind.i64 (8 * IntKind.wrap IntKind.i64 (AV.toI (f (0 + Int.toNat (↑i : Int)) (3)))))
  (some (2, (CS.mk [(AV.bool (false))] [])))
  (some (0, (CS.mk [(AV.osl (nl) (0) (0) (n) (n) (8) (true)), (AV.int IntKind.u32 (bl)), (AV.int IntKind.i64 (IntKind.wrap IntKind.i64 ((↑i : Int) + 1)))] [some (AObj.tarr [Sh.int IntKind.u64, Sh.bool, Sh.int IntKind.u32, Sh.int IntKind.u32, Sh.str, Sh.int IntKind.i64, Sh.int IntKind.i64, Sh.bool] (n) f false)])))) none)))))) none)))))) none) none) none)
  (cond (decide (AV.toI (f (0 + Int.toNat (↑i : Int)) (5)) < 0) == false) none (cond (decide (AV.toI (f (0 + Int.toNat (↑i : Int)) (5)) < 0) == false) none (cond (decide (AV.toI (f (0 + Int.toNat (↑i : Int)) (5)) < 0) == false) none (cond (decide (AV.toI (f (0 + Int.toNat (↑i : Int)) (5)) < 0) == false) none (cond (decide (AV.toI (f (0 + Int.toNat (↑i : Int)) (5)) < 0)) (some (2, (CS.mk [(AV.bool (false))] []))) none))))))) none) none)
  (cond (decide (IntKind.wrap IntKind.u64 (IntKind.wrap IntKind.u64 (AV.toI (f (0 + Int.toNat (↑i : Int)) (2))) + IntKind.wrap IntKind.u64 (AV.toI (f (0 + Int.toNat (↑i : Int)) (3)))) > IntKind.wrap IntKind.u64 bl) == false) none (cond (decide (IntKind.wrap IntKind.u64 (IntKind.wrap IntKind.u64 (AV.toI (f (0 + Int.toNat (↑i : Int)) (2))) + IntKind.wrap IntKind.u64 (AV.toI (f (0 + Int.toNat (↑i : Int)) (3)))) > IntKind.wrap IntKind.u64 bl) == false) none (cond (decide (IntKind.wrap IntKind.u64 (IntKind.wrap IntKind.u64 (AV.toI (f (0 + Int.toNat (↑i : Int)) (2))) + IntKind.wrap IntKind.u64 (AV.toI (f (0 + Int.toNat (↑i : Int)) (3)))) > IntKind.wrap IntKind.u64 bl)) (some (2, (CS.mk [(AV.bool (false))] []))) none))))) none) none) none)
  (cond (decide (AV.toI (f (0 + Int.toNat (↑i : Int)) (3)) < 1) == false) none (cond (decide (AV.toI (f (0 + Int.toNat (↑i : Int)) (3)) < 1) == false) none (cond (decide (AV.toI (f (0 + Int.toNat (↑i : Int)) (3)) < 1) == false) none (cond (decide (AV.toI (f (0 + Int.toNat (↑i : Int)) (3)) < 1)) (some (2, (CS.mk [(AV.bool (false))] []))) none)))))
  none) none)
  (some (1, (CS.mk [] [])))) := by kernel_rfl
theorem s11_eq (nl : Bool) (n : Nat) (f : Nat → Nat → AV) (bl : Int) (i : Nat) : s11 nl n f bl i s11_p = (cond (decide ((↑i : Int) < (↑n : Int)))
  (cond (Nat.blt (0 + Int.toNat (↑i : Int)) n)
  (cond (decide (AV.toI (f (0 + Int.toNat (↑i : Int)) (3)) < 1))
  (some (2, (CS.mk [(AV.bool (false))] [])))
  (cond (decide (IntKind.wrap IntKind.u64 (IntKind.wrap IntKind.u64 (AV.toI (f (0 + Int.toNat (↑i : Int)) (2))) + IntKind.wrap IntKind.u64 (AV.toI (f (0 + Int.toNat (↑i : Int)) (3)))) > IntKind.wrap IntKind.u64 bl))
  (some (2, (CS.mk [(AV.bool (false))] [])))
  (cond (decide (AV.toI (f (0 + Int.toNat (↑i : Int)) (5)) < 0))
  (some (2, (CS.mk [(AV.bool (false))] [])))
  (cond (AV.toI (f (0 + Int.toNat (↑i : Int)) (6)) != 0)
  (cond (decide (AV.toI (f (0 + Int.toNat (↑i : Int)) (6)) ≤ AV.toI (f (0 + Int.toNat (↑i : Int)) (5))))
  (some (2, (CS.mk [(AV.bool (false))] [])))
  (cond (AV.toB (f (0 + Int.toNat (↑i : Int)) (1)))
  (cond ((↑(List.length (AV.toS (f (0 + Int.toNat (↑i : Int)) (4)))) : Int) != IntKind.wrap IntKind.i64 (8 * IntKind.wrap IntKind.i64 (AV.toI (f (0 + Int.toNat (↑i : Int)) (3)))))
  (some (2, (CS.mk [(AV.bool (false))] [])))
  (some (0, (CS.mk [(AV.osl (nl) (0) (0) (n) (n) (8) (true)), (AV.int IntKind.u32 (bl)), (AV.int IntKind.i64 (IntKind.wrap IntKind.i64 ((↑i : Int) + 1)))] [some (AObj.tarr [Sh.int IntKind.u64, Sh.bool, Sh.int IntKind.u32, Sh.int IntKind.u32, Sh.str, Sh.int IntKind.i64, Sh.int IntKind.i64, Sh.bool] (n) f false)]))))
  (cond ((↑(List.length (AV.toS (f (0 + Int.toNat (↑i : Int)) (4)))) : Int) != IntKind.wrap IntKind.i64 (8 * IntKind.wrap IntKind.i64 (AV.toI (f (0 + Int.toNat (↑i : Int)) (3)))))
  (some (2, (CS.mk [(AV.bool (false))] [])))
  (some (0, (CS.mk [(AV.osl (nl) (0) (0) (n) (n) (8) (true)), (AV.int IntKind.u32 (bl)), (AV.int IntKind.i64 (IntKind.wrap IntKind.i64 ((↑i : Int) + 1)))] [some (AObj.tarr [Sh.int IntKind.u64, Sh.bool, Sh.int IntKind.u32, Sh.int IntKind.u32, Sh.str, Sh.int IntKind.i64, Sh.int IntKind.i64, Sh.bool] (n) f false)]))))))
  (cond (AV.toB (f (0 + Int.toNat (↑i : Int)) (1)))
  (cond ((↑(List.length (AV.toS (f (0 + Int.toNat (↑i : Int)) (4)))) : Int) != IntKind.wrap IntKind.i64 (8 * IntKind.wrap IntKind.i64 (AV.toI (f (0 + Int.toNat (↑i : Int)) (3)))))
  (some (2, (CS.mk [(AV.bool (false))] [])))
  (some (0, (CS.mk [(AV.osl (nl) (0) (0) (n) (n) (8) (true)), (AV.int IntKind.u32 (bl)), (AV.int IntKind.i64 (IntKind.wrap IntKind.i64 ((↑i : Int) + 1)))] [some (AObj.tarr [Sh.int IntKind.u64, Sh.bool, Sh.int IntKind.u32, Sh.int IntKind.u32, Sh.str, Sh.int IntKind.i64, Sh.int IntKind.i64, Sh.bool] (n) f false)]))))
  (some (0, (CS.mk [(AV.osl (nl) (0) (0) (n) (n) (8) (true)), (AV.int IntKind.u32 (bl)), (AV.int IntKind.i64 (IntKind.wrap IntKind.i64 ((↑i : Int) + 1)))] [some (AObj.tarr [Sh.int IntKind.u64, Sh.bool, Sh.int IntKind.u32, Sh.int IntKind.u32, Sh.str, Sh.int IntKind.i64, Sh.int IntKind.i64, Sh.bool] (n) f false)]))))))))
  none)
  (some (1, (CS.mk [] [])))) := by
  rw [s11_is]
  try simp only [eq_self, decide_true, beq_self_eq_true, Nat.beq_refl, ble_self, Int.le_refl, Nat.le_refl]
  cases (decide ((↑i : Int) < (↑n : Int))) with
  | true =>
    cases (Nat.blt (0 + Int.toNat (↑i : Int)) n) with
    | true =>
      cases (decide (AV.toI (f (0 + Int.toNat (↑i : Int)) (3)) < 1)) with
      | true =>
        rfl
      | false =>
        cases (decide (IntKind.wrap IntKind.u64 (IntKind.wrap IntKind.u64 (AV.toI (f (0 + Int.toNat (↑i : Int)) (2))) + IntKind.wrap IntKind.u64 (AV.toI (f (0 + Int.toNat (↑i : Int)) (3)))) > IntKind.wrap IntKind.u64 bl)) with
        | true =>
          rfl
        | false =>
          cases (decide (AV.toI (f (0 + Int.toNat (↑i : Int)) (5)) < 0)) with
          | true =>
            rfl
          | false =>
            cases (AV.toI (f (0 + Int.toNat (↑i : Int)) (6)) != 0) with
            | true =>
              cases (decide (AV.toI (f (0 + Int.toNat (↑i : Int)) (6)) ≤ AV.toI (f (0 + Int.toNat (↑i : Int)) (5)))) with
              | true =>
                rfl
              | false =>
                cases (AV.toB (f (0 + Int.toNat (↑i : Int)) (1))) with
                | true =>
                  cases ((↑(List.length (AV.toS (f (0 + Int.toNat (↑i : Int)) (4)))) : Int) != IntKind.wrap IntKind.i64 (8 * IntKind.wrap IntKind.i64 (AV.toI (f (0 + Int.toNat (↑i : Int)) (3))))) with
                  | true =>
                    rfl
                  | false =>
                    rfl
                | false =>
                  cases ((↑(List.length (AV.toS (f (0 + Int.toNat (↑i : Int)) (4)))) : Int) != IntKind.wrap IntKind.i64 (8 * IntKind.wrap IntKind.i64 (AV.toI (f (0 + Int.toNat (↑i : Int)) (3))))) with
                  | true =>
                    rfl
                  | false =>
                    rfl
            | false =>
              cases (AV.toB (f (0 + Int.toNat (↑i : Int)) (1))) with
              | true =>
                cases ((↑(List.length (AV.toS (f (0 + Int.toNat (↑i : Int)) (4)))) : Int) != IntKind.wrap IntKind.i64 (8 * IntKind.wrap IntKind.i64 (AV.toI (f (0 + Int.toNat (↑i : Int)) (3))))) with
                | true =>
                  rfl
                | false =>
                  rfl
              | false =>
                rfl
    | false =>
      rfl
  | false =>
    rfl

noncomputable def k13 (nl : Bool) (n : Nat) (f : Nat → Nat → AV) (bl : Int) (π : Plan) : Option CS := callC (E5) (1500) (13) (0) (.keep) ([]) π (a13 nl n f bl)
def k13_p : Plan := (.fork (.must true (.must false (.fork (.must true (.must false (.fork .stop (.must true (.must true (.reck 2 (.must true (.fork (.fork (.must true (.must true (.fork .stop .stop))) .stop) .stop)))))))) (.must false (.must true .stop))))) (.must false (.must true .stop)))
theorem k13_is (nl : Bool) (n : Nat) (f : Nat → Nat → AV) (bl : Int) : k13 nl n f bl k13_p = (cond (decide ((↑n : Int) > 16) == false)
  (cond (decide ((↑n : Int) > 16) == false) (cond (decide ((↑n : Int) > 16)) none (cond (decide (bl < 1) == false)
  (cond (decide (bl < 1) == false) (cond (decide (bl < 1)) none (cond (decide (bl > 64))
  (some (CS.mk [(AV.bool (false))] []))
  (cond (decide (n = n)) (cond (decide ((↑n : Int) = (↑n : Int))) (cond (decide (n = n)) (cond (Nat.ble n 1000)
  (cond ((rngV f (n)))
  (cond (!decide (bl < 1)) (cond (!decide (bl > 64)) (cond ((okGV (bl) f (n)))
  (some (CS.mk [(AV.bool (true))] []))
  (some (CS.mk [(AV.bool (false))] []))) none) none)
  none)
  none) none) none) none))) none)
  (cond (decide (bl < 1) == false) none (cond (decide (bl < 1)) (some (CS.mk [(AV.bool (false))] [])) none)))) none)
  (cond (decide ((↑n : Int) > 16) == false) none (cond (decide ((↑n : Int) > 16)) (some (CS.mk [(AV.bool (false))] [])) none))) := by kernel_rfl
theorem k13_eq (nl : Bool) (n : Nat) (f : Nat → Nat → AV) (bl : Int) : k13 nl n f bl k13_p = (cond (decide ((↑n : Int) > 16))
  (some (CS.mk [(AV.bool (false))] []))
  (cond (decide (bl < 1))
  (some (CS.mk [(AV.bool (false))] []))
  (cond (decide (bl > 64))
  (some (CS.mk [(AV.bool (false))] []))
  (cond (Nat.ble n 1000)
  (cond (rngV f (n))
  (cond (okGV (bl) f (n))
  (some (CS.mk [(AV.bool (true))] []))
  (some (CS.mk [(AV.bool (false))] [])))
  none)
  none)))) := by
  rw [k13_is]
  try simp only [eq_self, decide_true, beq_self_eq_true, Nat.beq_refl, ble_self, Int.le_refl, Nat.le_refl]
  cases (decide ((↑n : Int) > 16)) with
  | true =>
    rfl
  | false =>
    cases (decide (bl < 1)) with
    | true =>
      rfl
    | false =>
      cases (decide (bl > 64)) with
      | true =>
        rfl
      | false =>
        cases (Nat.ble n 1000) with
        | true =>
          cases (rngV f (n)) with
          | true =>
            cases (okGV (bl) f (n)) with
            | true =>
              rfl
            | false =>
              rfl
          | false =>
            rfl
        | false =>
          rfl

noncomputable def k11 (nl : Bool) (n : Nat) (f : Nat → Nat → AV) (bl : Int) (π : Plan) : Option CS := callC (E5) (1500) (11) (0) (.keep) ([]) π (a13 nl n f bl)
def k11_p : Plan := (.fork (.must true (.must false (.fork (.must true (.must false (.fork .stop (.must true (.reck 2 (.must true (.fork (.fork (.must true (.must true (.fork .stop .stop))) .stop) .stop))))))) (.must false (.must true .stop))))) (.must false (.must true .stop)))
theorem k11_is (nl : Bool) (n : Nat) (f : Nat → Nat → AV) (bl : Int) : k11 nl n f bl k11_p = (cond (decide ((↑n : Int) > 16) == false)
  (cond (decide ((↑n : Int) > 16) == false) (cond (decide ((↑n : Int) > 16)) none (cond (decide (bl < 1) == false)
  (cond (decide (bl < 1) == false) (cond (decide (bl < 1)) none (cond (decide (bl > 64))
  (some (CS.mk [(AV.bool (false))] []))
  (cond (decide (n = n)) (cond (decide (n = n)) (cond (Nat.ble n 1000)
  (cond ((rngV f (n)))
  (cond (!decide (bl < 1)) (cond (!decide (bl > 64)) (cond ((okGV (bl) f (n)))
  (some (CS.mk [(AV.bool (true))] []))
  (some (CS.mk [(AV.bool (false))] []))) none) none)
  none)
  none) none) none))) none)
  (cond (decide (bl < 1) == false) none (cond (decide (bl < 1)) (some (CS.mk [(AV.bool (false))] [])) none)))) none)
  (cond (decide ((↑n : Int) > 16) == false) none (cond (decide ((↑n : Int) > 16)) (some (CS.mk [(AV.bool (false))] [])) none))) := by kernel_rfl
theorem k11_eq (nl : Bool) (n : Nat) (f : Nat → Nat → AV) (bl : Int) : k11 nl n f bl k11_p = (cond (decide ((↑n : Int) > 16))
  (some (CS.mk [(AV.bool (false))] []))
  (cond (decide (bl < 1))
  (some (CS.mk [(AV.bool (false))] []))
  (cond (decide (bl > 64))
  (some (CS.mk [(AV.bool (false))] []))
  (cond (Nat.ble n 1000)
  (cond (rngV f (n))
  (cond (okGV (bl) f (n))
  (some (CS.mk [(AV.bool (true))] []))
  (some (CS.mk [(AV.bool (false))] [])))
  none)
  none)))) := by
  rw [k11_is]
  try simp only [eq_self, decide_true, beq_self_eq_true, Nat.beq_refl, ble_self, Int.le_refl, Nat.le_refl]
  cases (decide ((↑n : Int) > 16)) with
  | true =>
    rfl
  | false =>
    cases (decide (bl < 1)) with
    | true =>
      rfl
    | false =>
      cases (decide (bl > 64)) with
      | true =>
        rfl
      | false =>
        cases (Nat.ble n 1000) with
        | true =>
          cases (rngV f (n)) with
          | true =>
            cases (okGV (bl) f (n)) with
            | true =>
              rfl
            | false =>
              rfl
          | false =>
            rfl
        | false =>
          rfl

noncomputable def s18 (ol : Bool) (m : Nat) (g : Nat → Nat → AV) (x : Int) (i : Nat) (π : Plan) : Option (Nat × CS) := stepC (E6) (400) (loopC E6 18 0) (0) (h18) ((.normal, h18) :: x18) π (c18 ol m g x i)
def s18_p : Plan := (.fork (.reck 1 (.must true (.fork (.fork .stop .stop) .stop))) .stop)
theorem s18_is (ol : Bool) (m : Nat) (g : Nat → Nat → AV) (x : Int) (i : Nat) : s18 ol m g x i s18_p = (cond (decide ((↑i : Int) < (↑m : Int)))
  (cond (decide ((↑i : Int) < (↑m : Int))) (cond (Nat.blt (0 + Int.toNat (↑i : Int)) m)
  (cond (AV.toI (g (0 + Int.toNat (↑i : Int)) 0) == x)
  (some (2, (CS.mk [(AV.int IntKind.i64 ((↑i : Int)))] [])))
  (some (0, (CS.mk [(AV.osl (ol) (0) (0) (m) (m) (1) (true)), (AV.int IntKind.i64 (x)), (AV.int IntKind.i64 (IntKind.wrap IntKind.i64 ((↑i : Int) + 1)))] [some (AObj.tarr [Sh.int IntKind.i64] (m) g false)]))))
  none) none)
  (some (1, (CS.mk [] [])))) := by kernel_rfl
theorem s18_eq (ol : Bool) (m : Nat) (g : Nat → Nat → AV) (x : Int) (i : Nat) : s18 ol m g x i s18_p = (cond (decide ((↑i : Int) < (↑m : Int)))
  (cond (Nat.blt (0 + Int.toNat (↑i : Int)) m)
  (cond (AV.toI (g (0 + Int.toNat (↑i : Int)) 0) == x)
  (some (2, (CS.mk [(AV.int IntKind.i64 ((↑i : Int)))] [])))
  (some (0, (CS.mk [(AV.osl (ol) (0) (0) (m) (m) (1) (true)), (AV.int IntKind.i64 (x)), (AV.int IntKind.i64 (IntKind.wrap IntKind.i64 ((↑i : Int) + 1)))] [some (AObj.tarr [Sh.int IntKind.i64] (m) g false)]))))
  none)
  (some (1, (CS.mk [] [])))) := by
  rw [s18_is]
  try simp only [eq_self, decide_true, beq_self_eq_true, Nat.beq_refl, ble_self, Int.le_refl, Nat.le_refl]
  cases (decide ((↑i : Int) < (↑m : Int))) with
  | true =>
    cases (Nat.blt (0 + Int.toNat (↑i : Int)) m) with
    | true =>
      cases (AV.toI (g (0 + Int.toNat (↑i : Int)) 0) == x) with
      | true =>
        rfl
      | false =>
        rfl
    | false =>
      rfl
  | false =>
    rfl

noncomputable def k18 (ol : Bool) (m : Nat) (g : Nat → Nat → AV) (x : Int) (π : Plan) : Option CS := callC (E7) (1500) (18) (0) (.keep) ([]) π (a18 ol m g x)
def k18_p : Plan := (.must true (.reck 2 (.must true (.fork (.fork .stop .stop) .stop))))
theorem k18_is (ol : Bool) (m : Nat) (g : Nat → Nat → AV) (x : Int) : k18 ol m g x k18_p = (cond (decide (m = m)) (cond (decide (m = m)) (cond (Nat.ble m 1000)
  (cond (Nat.blt (atV g x m) m)
  (some (CS.mk [(AV.int IntKind.i64 ((↑(atV g x m) : Int)))] []))
  (some (CS.mk [(AV.int IntKind.i64 (-1))] [])))
  none) none) none) := by kernel_rfl
theorem k18_eq (ol : Bool) (m : Nat) (g : Nat → Nat → AV) (x : Int) : k18 ol m g x k18_p = (cond (Nat.ble m 1000)
  (cond (Nat.blt (atV g x m) m)
  (some (CS.mk [(AV.int IntKind.i64 ((↑(atV g x m) : Int)))] []))
  (some (CS.mk [(AV.int IntKind.i64 (-1))] [])))
  none) := by
  rw [k18_is]
  try simp only [eq_self, decide_true, beq_self_eq_true, Nat.beq_refl, ble_self, Int.le_refl, Nat.le_refl]
  cases (Nat.ble m 1000) with
  | true =>
    cases (Nat.blt (atV g x m) m) with
    | true =>
      rfl
    | false =>
      rfl
  | false =>
    rfl

noncomputable def s12a (nl : Bool) (n : Nat) (f : Nat → Nat → AV) (ol : Bool) (m : Nat) (g : Nat → Nat → AV) (i : Nat) (π : Plan) : Option (Nat × CS) := stepC (E8) (400) (loopC E8 12 0) (0) (h12a) ((.normal, h12a) :: x12a) π (c12 nl n f ol m g i)
def s12a_p : Plan := (.fork (.reck 1 (.must true (.fork (.fork (.must true (.must true (.reck 1 (.must true (.must true (.must true (.must true (.must true (.must true (.fork (.must true (.must true (.must true (.reck 1 (.must true (.fork (.fork (.must true (.must true .stop)) (.must true (.must true .stop))) .stop)))))) (.must false (.must false (.must false (.must false .stop)))))))))))))) (.must false (.must false (.must false (.must false (.must false (.must false .stop))))))) .stop))) .stop)
theorem s12a_is (nl : Bool) (n : Nat) (f : Nat → Nat → AV) (ol : Bool) (m : Nat) (g : Nat → Nat → AV) (i : Nat) : s12a nl n f ol m g i s12a_p = (cond (decide ((↑i : Int) < (↑n : Int)))
  (cond (decide ((↑i : Int) < (↑n : Int))) (cond (Nat.blt (0 + Int.toNat (↑i : Int)) n)
  (cond ((!AV.toB (f (0 + Int.toNat (↑i : Int)) (7))) == true)
  (cond ((!AV.toB (f (0 + Int.toNat (↑i : Int)) (7))) == true) (cond ((!AV.toB (f (0 + Int.toNat (↑i : Int)) (7))) == true) (cond (decide ((↑i : Int) < (↑n : Int))) (cond ((!AV.toB (f (0 + Int.toNat (↑i : Int)) (7))) == true) (cond ((!AV.toB (f (0 + Int.toNat (↑i : Int)) (7))) == true) (cond (Nat.blt (0 + Int.toNat (↑i : Int)) n) (cond ((!AV.toB (f (0 + Int.toNat (↑i : Int)) (7))) == true) (cond (!AV.toB (f (0 + Int.toNat (↑i : Int)) (7))) (cond ((AV.toI (f (0 + Int.toNat (↑i : Int)) (6)) != 0) == true)
  (cond ((AV.toI (f (0 + Int.toNat (↑i : Int)) (6)) != 0) == true) (cond ((AV.toI (f (0 + Int.toNat (↑i : Int)) (6)) != 0) == true) (cond (decide (m = m)) (cond (decide (m = m)) (cond (Nat.ble m 1000)
  (cond (Nat.blt (atV g (↑i : Int) m) m)
  (cond ((AV.toI (f (0 + Int.toNat (↑i : Int)) (6)) != 0) == true) (cond (AV.toI (f (0 + Int.toNat (↑i : Int)) (6)) != 0) (some (0, (CS.mk [(AV.osl (nl) (0) (0) (n) (n) (8) (true)), (AV.osl (ol) (1) (0) (m) (m) (1) (true)), (AV.int IntKind.i64 (IntKind.wrap IntKind.i64 ((↑i : Int) + 1)))] [some (AObj.tarr [Sh.int IntKind.u64, Sh.bool, Sh.int IntKind.u32, Sh.int IntKind.u32, Sh.str, Sh.int IntKind.i64, Sh.int IntKind.i64, Sh.bool] (n) f false), some (AObj.tarr [Sh.int IntKind.i64] (m) g false)]))) none) none)
  (cond ((AV.toI (f (0 + Int.toNat (↑i : Int)) (6)) != 0) == true) (cond (AV.toI (f (0 + Int.toNat (↑i : Int)) (6)) != 0) (some (2, (CS.mk [(AV.bool (false))] []))) none) none))
  none) none) none) none) none)
  (cond ((AV.toI (f (0 + Int.toNat (↑i : Int)) (6)) != 0) == true) none (cond ((AV.toI (f (0 + Int.toNat (↑i : Int)) (6)) != 0) == true) none (cond ((AV.toI (f (0 + Int.toNat (↑i : Int)) (6)) != 0) == true) none (cond (AV.toI (f (0 + Int.toNat (↑i : Int)) (6)) != 0) none (some (0, (CS.mk [(AV.osl (nl) (0) (0) (n) (n) (8) (true)), (AV.osl (ol) (1) (0) (m) (m) (1) (true)), (AV.int IntKind.i64 (IntKind.wrap IntKind.i64 ((↑i : Int) + 1)))] [some (AObj.tarr [Sh.int IntKind.u64, Sh.bool, Sh.int IntKind.u32, Sh.int IntKind.u32, Sh.str, Sh.int IntKind.i64, Sh.int IntKind.i64, Sh.bool] (n) f false), some (AObj.tarr [Sh.int IntKind.i64] (m) g false)])))))))) none) none) none) none) none) none) none) none)
  (cond ((!AV.toB (f (0 + Int.toNat (↑i : Int)) (7))) == true) none (cond ((!AV.toB (f (0 + Int.toNat (↑i : Int)) (7))) == true) none (cond ((!AV.toB (f (0 + Int.toNat (↑i : Int)) (7))) == true) none (cond ((!AV.toB (f (0 + Int.toNat (↑i : Int)) (7))) == true) none (cond ((!AV.toB (f (0 + Int.toNat (↑i : Int)) (7))) == true) none (cond (!AV.toB (f (0 + Int.toNat (↑i : Int)) (7))) none (some (0, (CS.mk [(AV.osl (nl) (0) (0) (n) (n) (8) (true)), (AV.osl (ol) (1) (0) (m) (m) (1) (true)), (AV.int IntKind.i64 (IntKind.wrap IntKind.i64 ((↑i : Int) + 1)))] [some (AObj.tarr [Sh.int IntKind.u64, Sh.bool, Sh.int IntKind.u32, Sh.int IntKind.u32, Sh.str, Sh.int IntKind.i64, Sh.int IntKind.i64, Sh.bool] (n) f false), some (AObj.tarr [Sh.int IntKind.i64] (m) g false)]))))))))))
  none) none)
  (some (1, (CS.mk [(AV.osl (nl) (0) (0) (n) (n) (8) (true)), (AV.osl (ol) (1) (0) (m) (m) (1) (true))] [some (AObj.tarr [Sh.int IntKind.u64, Sh.bool, Sh.int IntKind.u32, Sh.int IntKind.u32, Sh.str, Sh.int IntKind.i64, Sh.int IntKind.i64, Sh.bool] (n) f false), some (AObj.tarr [Sh.int IntKind.i64] (m) g false)])))) := by kernel_rfl
theorem s12a_eq (nl : Bool) (n : Nat) (f : Nat → Nat → AV) (ol : Bool) (m : Nat) (g : Nat → Nat → AV) (i : Nat) : s12a nl n f ol m g i s12a_p = (cond (decide ((↑i : Int) < (↑n : Int)))
  (cond (Nat.blt (0 + Int.toNat (↑i : Int)) n)
  (cond (AV.toB (f (0 + Int.toNat (↑i : Int)) (7)))
  (some (0, (CS.mk [(AV.osl (nl) (0) (0) (n) (n) (8) (true)), (AV.osl (ol) (1) (0) (m) (m) (1) (true)), (AV.int IntKind.i64 (IntKind.wrap IntKind.i64 ((↑i : Int) + 1)))] [some (AObj.tarr [Sh.int IntKind.u64, Sh.bool, Sh.int IntKind.u32, Sh.int IntKind.u32, Sh.str, Sh.int IntKind.i64, Sh.int IntKind.i64, Sh.bool] (n) f false), some (AObj.tarr [Sh.int IntKind.i64] (m) g false)])))
  (cond (AV.toI (f (0 + Int.toNat (↑i : Int)) (6)) != 0)
  (cond (Nat.ble m 1000)
  (cond (Nat.blt (atV g (↑i : Int) m) m)
  (some (0, (CS.mk [(AV.osl (nl) (0) (0) (n) (n) (8) (true)), (AV.osl (ol) (1) (0) (m) (m) (1) (true)), (AV.int IntKind.i64 (IntKind.wrap IntKind.i64 ((↑i : Int) + 1)))] [some (AObj.tarr [Sh.int IntKind.u64, Sh.bool, Sh.int IntKind.u32, Sh.int IntKind.u32, Sh.str, Sh.int IntKind.i64, Sh.int IntKind.i64, Sh.bool] (n) f false), some (AObj.tarr [Sh.int IntKind.i64] (m) g false)])))
  (some (2, (CS.mk [(AV.bool (false))] []))))
  none)
  (some (0, (CS.mk [(AV.osl (nl) (0) (0) (n) (n) (8) (true)), (AV.osl (ol) (1) (0) (m) (m) (1) (true)), (AV.int IntKind.i64 (IntKind.wrap IntKind.i64 ((↑i : Int) + 1)))] [some (AObj.tarr [Sh.int IntKind.u64, Sh.bool, Sh.int IntKind.u32, Sh.int IntKind.u32, Sh.str, Sh.int IntKind.i64, Sh.int IntKind.i64, Sh.bool] (n) f false), some (AObj.tarr [Sh.int IntKind.i64] (m) g false)])))))
  none)
  (some (1, (CS.mk [(AV.osl (nl) (0) (0) (n) (n) (8) (true)), (AV.osl (ol) (1) (0) (m) (m) (1) (true))] [some (AObj.tarr [Sh.int IntKind.u64, Sh.bool, Sh.int IntKind.u32, Sh.int IntKind.u32, Sh.str, Sh.int IntKind.i64, Sh.int IntKind.i64, Sh.bool] (n) f false), some (AObj.tarr [Sh.int IntKind.i64] (m) g false)])))) := by
  rw [s12a_is]
  try simp only [eq_self, decide_true, beq_self_eq_true, Nat.beq_refl, ble_self, Int.le_refl, Nat.le_refl]
  cases (decide ((↑i : Int) < (↑n : Int))) with
  | true =>
    cases (Nat.blt (0 + Int.toNat (↑i : Int)) n) with
    | true =>
      cases (AV.toB (f (0 + Int.toNat (↑i : Int)) (7))) with
      | true =>
        rfl
      | false =>
        cases (AV.toI (f (0 + Int.toNat (↑i : Int)) (6)) != 0) with
        | true =>
          cases (Nat.ble m 1000) with
          | true =>
            cases (Nat.blt (atV g (↑i : Int) m) m) with
            | true =>
              rfl
            | false =>
              rfl
          | false =>
            rfl
        | false =>
          rfl
    | false =>
      rfl
  | false =>
    rfl

noncomputable def s12b (nl : Bool) (n : Nat) (f : Nat → Nat → AV) (ol : Bool) (m : Nat) (g : Nat → Nat → AV) (i : Nat) (π : Plan) : Option (Nat × CS) := stepC (E9) (400) (loopC E9 12 2) (0) (h12b) ((.normal, h12b) :: x12b) π (c12 nl n f ol m g i)
def s12b_p : Plan := (.fork (.reck 1 (.must true (.fork (.fork (.must true (.must true (.must true (.must false (.fork (.must true (.must true (.must true (.reck 1 (.must true (.fork (.fork (.must true (.must true (.must false (.fork (.must true (.must true (.fork (.fork (.must true (.must true (.fork (.must false (.fork (.must true (.must true (.must true (.must true (.must true (.must true (.must true (.must true (.must true (.fork (.must true (.must true (.must true (.must true (.must true (.must true (.must true (.must true (.must true (.must true (.must false (.fork .stop .stop)))))))))))) (.must false (.must false (.must false (.must false (.must false (.must true (.must false (.must false .stop)))))))))))))))))) (.must false (.must false (.must false (.must false (.must false (.must false (.must false (.must true .stop)))))))))) .stop))) .stop) .stop))) (.must false (.must false (.must false (.must false (.must true .stop))))))))) (.must true (.must true (.must false .stop)))) .stop)))))) (.must false (.must false (.must false (.must false (.must true .stop)))))))))) (.must false (.must false (.must false (.must true .stop))))) .stop))) .stop)
theorem s12b_is (nl : Bool) (n : Nat) (f : Nat → Nat → AV) (ol : Bool) (m : Nat) (g : Nat → Nat → AV) (i : Nat) : s12b nl n f ol m g i s12b_p = (cond (decide ((↑i : Int) < (↑m : Int)))
  (cond (decide ((↑i : Int) < (↑m : Int))) (cond (Nat.blt (0 + Int.toNat (↑i : Int)) m)
  (cond (decide (AV.toI (g (0 + Int.toNat (↑i : Int)) 0) < 0) == false)
  (cond (decide (AV.toI (g (0 + Int.toNat (↑i : Int)) 0) < 0) == false) (cond (decide (AV.toI (g (0 + Int.toNat (↑i : Int)) 0) < 0) == false) (cond (decide (AV.toI (g (0 + Int.toNat (↑i : Int)) 0) < 0) == false) (cond (decide (AV.toI (g (0 + Int.toNat (↑i : Int)) 0) < 0)) none (cond (decide (AV.toI (g (0 + Int.toNat (↑i : Int)) 0) ≥ (↑n : Int)) == false)
  (cond (decide (AV.toI (g (0 + Int.toNat (↑i : Int)) 0) ≥ (↑n : Int)) == false) (cond (decide (AV.toI (g (0 + Int.toNat (↑i : Int)) 0) ≥ (↑n : Int)) == false) (cond (decide (m = m)) (cond (decide (m = m)) (cond (Nat.ble m 1000)
  (cond (Nat.blt (atV g (AV.toI (g (0 + Int.toNat (↑i : Int)) 0)) m) m)
  (cond (decide (AV.toI (g (0 + Int.toNat (↑i : Int)) 0) ≥ (↑n : Int)) == false) (cond (decide (AV.toI (g (0 + Int.toNat (↑i : Int)) 0) ≥ (↑n : Int)) == false) (cond (decide (AV.toI (g (0 + Int.toNat (↑i : Int)) 0) ≥ (↑n : Int))) none (cond (((↑(atV g (AV.toI (g (0 + Int.toNat (↑i : Int)) 0)) m) : Int) != (↑i : Int)) == false)
  (cond (((↑(atV g (AV.toI (g (0 + Int.toNat (↑i : Int)) 0)) m) : Int) != (↑i : Int)) == false) (cond (((↑(atV g (AV.toI (g (0 + Int.toNat (↑i : Int)) 0)) m) : Int) != (↑i : Int)) == false) (cond (decide (0 ≤ AV.toI (g (0 + Int.toNat (↑i : Int)) 0)))
  (cond (decide (AV.toI (g (0 + Int.toNat (↑i : Int)) 0) < (↑n : Int)))
  (cond (((↑(atV g (AV.toI (g (0 + Int.toNat (↑i : Int)) 0)) m) : Int) != (↑i : Int)) == false) (cond (((↑(atV g (AV.toI (g (0 + Int.toNat (↑i : Int)) 0)) m) : Int) != (↑i : Int)) == false) (cond (Nat.blt (0 + Int.toNat (AV.toI (g (0 + Int.toNat (↑i : Int)) 0))) n)
  (cond ((↑(atV g (AV.toI (g (0 + Int.toNat (↑i : Int)) 0)) m) : Int) != (↑i : Int)) none (cond (AV.toB (f (0 + Int.toNat (AV.toI (g (0 + Int.toNat (↑i : Int)) 0))) (7)) == false)
  (cond (AV.toB (f (0 + Int.toNat (AV.toI (g (0 + Int.toNat (↑i : Int)) 0))) (7)) == false) (cond (AV.toB (f (0 + Int.toNat (AV.toI (g (0 + Int.toNat (↑i : Int)) 0))) (7)) == false) (cond (decide (0 ≤ AV.toI (g (0 + Int.toNat (↑i : Int)) 0))) (cond (decide (AV.toI (g (0 + Int.toNat (↑i : Int)) 0) < (↑n : Int))) (cond (AV.toB (f (0 + Int.toNat (AV.toI (g (0 + Int.toNat (↑i : Int)) 0))) (7)) == false) (cond (AV.toB (f (0 + Int.toNat (AV.toI (g (0 + Int.toNat (↑i : Int)) 0))) (7)) == false) (cond (Nat.blt (0 + Int.toNat (AV.toI (g (0 + Int.toNat (↑i : Int)) 0))) n) (cond (AV.toB (f (0 + Int.toNat (AV.toI (g (0 + Int.toNat (↑i : Int)) 0))) (7)) == false) (cond (AV.toB (f (0 + Int.toNat (AV.toI (g (0 + Int.toNat (↑i : Int)) 0))) (7)) == false) (cond ((AV.toI (f (0 + Int.toNat (AV.toI (g (0 + Int.toNat (↑i : Int)) 0))) (6)) == 0) == true)
  (cond ((AV.toI (f (0 + Int.toNat (AV.toI (g (0 + Int.toNat (↑i : Int)) 0))) (6)) == 0) == true) (cond ((AV.toI (f (0 + Int.toNat (AV.toI (g (0 + Int.toNat (↑i : Int)) 0))) (6)) == 0) == true) (cond (decide (0 ≤ AV.toI (g (0 + Int.toNat (↑i : Int)) 0))) (cond (decide (AV.toI (g (0 + Int.toNat (↑i : Int)) 0) < (↑n : Int))) (cond ((AV.toI (f (0 + Int.toNat (AV.toI (g (0 + Int.toNat (↑i : Int)) 0))) (6)) == 0) == true) (cond ((AV.toI (f (0 + Int.toNat (AV.toI (g (0 + Int.toNat (↑i : Int)) 0))) (6)) == 0) == true) (cond (Nat.blt (0 + Int.toNat (AV.toI (g (0 + Int.toNat (↑i : Int)) 0))) n) (cond ((AV.toI (f (0 + Int.toNat (AV.toI (g (0 + Int.toNat (↑i : Int)) 0))) (6)) == 0) == true) (cond (AV.toB (f (0 + Int.toNat (AV.toI (g (0 + Int.toNat (↑i : Int)) 0))) (7)) == false) (cond (AV.toI (f (0 + Int.toNat (AV.toI (g (0 + Int.toNat (↑i : Int)) 0))) (6)) == 0) (cond (AV.toB (f (0 + Int.toNat (AV.toI (g (0 + Int.toNat (↑i : Int)) 0))) (7))) none (cond (!AV.toB (f (0 + Int.toNat (AV.toI (g (0 + Int.toNat (↑i : Int)) 0))) (1)))
  (some (2, (CS.mk [(AV.bool (false))] [])))
  (some (0, (CS.mk [(AV.osl (nl) (0) (0) (n) (n) (8) (true)), (AV.osl (ol) (1) (0) (m) (m) (1) (true)), (AV.int IntKind.i64 (IntKind.wrap IntKind.i64 ((↑i : Int) + 1)))] [some (AObj.tarr [Sh.int IntKind.u64, Sh.bool, Sh.int IntKind.u32, Sh.int IntKind.u32, Sh.str, Sh.int IntKind.i64, Sh.int IntKind.i64, Sh.bool] (n) f false), some (AObj.tarr [Sh.int IntKind.i64] (m) g false)]))))) none) none) none) none) none) none) none) none) none) none)
  (cond ((AV.toI (f (0 + Int.toNat (AV.toI (g (0 + Int.toNat (↑i : Int)) 0))) (6)) == 0) == true) none (cond ((AV.toI (f (0 + Int.toNat (AV.toI (g (0 + Int.toNat (↑i : Int)) 0))) (6)) == 0) == true) none (cond ((AV.toI (f (0 + Int.toNat (AV.toI (g (0 + Int.toNat (↑i : Int)) 0))) (6)) == 0) == true) none (cond ((AV.toI (f (0 + Int.toNat (AV.toI (g (0 + Int.toNat (↑i : Int)) 0))) (6)) == 0) == true) none (cond ((AV.toI (f (0 + Int.toNat (AV.toI (g (0 + Int.toNat (↑i : Int)) 0))) (6)) == 0) == true) none (cond (AV.toB (f (0 + Int.toNat (AV.toI (g (0 + Int.toNat (↑i : Int)) 0))) (7)) == false) (cond (AV.toI (f (0 + Int.toNat (AV.toI (g (0 + Int.toNat (↑i : Int)) 0))) (6)) == 0) none (cond (AV.toB (f (0 + Int.toNat (AV.toI (g (0 + Int.toNat (↑i : Int)) 0))) (7))) none (some (0, (CS.mk [(AV.osl (nl) (0) (0) (n) (n) (8) (true)), (AV.osl (ol) (1) (0) (m) (m) (1) (true)), (AV.int IntKind.i64 (IntKind.wrap IntKind.i64 ((↑i : Int) + 1)))] [some (AObj.tarr [Sh.int IntKind.u64, Sh.bool, Sh.int IntKind.u32, Sh.int IntKind.u32, Sh.str, Sh.int IntKind.i64, Sh.int IntKind.i64, Sh.bool] (n) f false), some (AObj.tarr [Sh.int IntKind.i64] (m) g false)]))))) none))))))) none) none) none) none) none) none) none) none) none)
  (cond (AV.toB (f (0 + Int.toNat (AV.toI (g (0 + Int.toNat (↑i : Int)) 0))) (7)) == false) none (cond (AV.toB (f (0 + Int.toNat (AV.toI (g (0 + Int.toNat (↑i : Int)) 0))) (7)) == false) none (cond (AV.toB (f (0 + Int.toNat (AV.toI (g (0 + Int.toNat (↑i : Int)) 0))) (7)) == false) none (cond (AV.toB (f (0 + Int.toNat (AV.toI (g (0 + Int.toNat (↑i : Int)) 0))) (7)) == false) none (cond (AV.toB (f (0 + Int.toNat (AV.toI (g (0 + Int.toNat (↑i : Int)) 0))) (7)) == false) none (cond (AV.toB (f (0 + Int.toNat (AV.toI (g (0 + Int.toNat (↑i : Int)) 0))) (7)) == false) none (cond (AV.toB (f (0 + Int.toNat (AV.toI (g (0 + Int.toNat (↑i : Int)) 0))) (7)) == false) none (cond (AV.toB (f (0 + Int.toNat (AV.toI (g (0 + Int.toNat (↑i : Int)) 0))) (7))) (some (2, (CS.mk [(AV.bool (false))] []))) none))))))))))
  none) none) none)
  none)
  none) none) none)
  (cond (((↑(atV g (AV.toI (g (0 + Int.toNat (↑i : Int)) 0)) m) : Int) != (↑i : Int)) == false) none (cond (((↑(atV g (AV.toI (g (0 + Int.toNat (↑i : Int)) 0)) m) : Int) != (↑i : Int)) == false) none (cond (((↑(atV g (AV.toI (g (0 + Int.toNat (↑i : Int)) 0)) m) : Int) != (↑i : Int)) == false) none (cond (((↑(atV g (AV.toI (g (0 + Int.toNat (↑i : Int)) 0)) m) : Int) != (↑i : Int)) == false) none (cond ((↑(atV g (AV.toI (g (0 + Int.toNat (↑i : Int)) 0)) m) : Int) != (↑i : Int)) (some (2, (CS.mk [(AV.bool (false))] []))) none))))))) none) none)
  (cond (decide (AV.toI (g (0 + Int.toNat (↑i : Int)) 0) ≥ (↑n : Int)) == false) (cond (decide (AV.toI (g (0 + Int.toNat (↑i : Int)) 0) ≥ (↑n : Int)) == false) (cond (decide (AV.toI (g (0 + Int.toNat (↑i : Int)) 0) ≥ (↑n : Int))) none (some (2, (CS.mk [(AV.bool (false))] [])))) none) none))
  none) none) none) none) none)
  (cond (decide (AV.toI (g (0 + Int.toNat (↑i : Int)) 0) ≥ (↑n : Int)) == false) none (cond (decide (AV.toI (g (0 + Int.toNat (↑i : Int)) 0) ≥ (↑n : Int)) == false) none (cond (decide (AV.toI (g (0 + Int.toNat (↑i : Int)) 0) ≥ (↑n : Int)) == false) none (cond (decide (AV.toI (g (0 + Int.toNat (↑i : Int)) 0) ≥ (↑n : Int)) == false) none (cond (decide (AV.toI (g (0 + Int.toNat (↑i : Int)) 0) ≥ (↑n : Int))) (some (2, (CS.mk [(AV.bool (false))] []))) none))))))) none) none) none)
  (cond (decide (AV.toI (g (0 + Int.toNat (↑i : Int)) 0) < 0) == false) none (cond (decide (AV.toI (g (0 + Int.toNat (↑i : Int)) 0) < 0) == false) none (cond (decide (AV.toI (g (0 + Int.toNat (↑i : Int)) 0) < 0) == false) none (cond (decide (AV.toI (g (0 + Int.toNat (↑i : Int)) 0) < 0)) (some (2, (CS.mk [(AV.bool (false))] []))) none)))))
  none) none)
  (some (1, (CS.mk [] [])))) := by kernel_rfl
theorem s12b_eq (nl : Bool) (n : Nat) (f : Nat → Nat → AV) (ol : Bool) (m : Nat) (g : Nat → Nat → AV) (i : Nat) : s12b nl n f ol m g i s12b_p = (cond (decide ((↑i : Int) < (↑m : Int)))
  (cond (Nat.blt (0 + Int.toNat (↑i : Int)) m)
  (cond (decide (AV.toI (g (0 + Int.toNat (↑i : Int)) 0) < 0))
  (some (2, (CS.mk [(AV.bool (false))] [])))
  (cond (decide (AV.toI (g (0 + Int.toNat (↑i : Int)) 0) ≥ (↑n : Int)))
  (some (2, (CS.mk [(AV.bool (false))] [])))
  (cond (Nat.ble m 1000)
  (cond (Nat.blt (atV g (AV.toI (g (0 + Int.toNat (↑i : Int)) 0)) m) m)
  (cond ((↑(atV g (AV.toI (g (0 + Int.toNat (↑i : Int)) 0)) m) : Int) != (↑i : Int))
  (some (2, (CS.mk [(AV.bool (false))] [])))
  (cond (decide (0 ≤ AV.toI (g (0 + Int.toNat (↑i : Int)) 0)))
  (cond (decide (AV.toI (g (0 + Int.toNat (↑i : Int)) 0) < (↑n : Int)))
  (cond (Nat.blt (0 + Int.toNat (AV.toI (g (0 + Int.toNat (↑i : Int)) 0))) n)
  (cond (AV.toB (f (0 + Int.toNat (AV.toI (g (0 + Int.toNat (↑i : Int)) 0))) (7)))
  (some (2, (CS.mk [(AV.bool (false))] [])))
  (cond (AV.toI (f (0 + Int.toNat (AV.toI (g (0 + Int.toNat (↑i : Int)) 0))) (6)) == 0)
  (cond (AV.toB (f (0 + Int.toNat (AV.toI (g (0 + Int.toNat (↑i : Int)) 0))) (1)))
  (some (0, (CS.mk [(AV.osl (nl) (0) (0) (n) (n) (8) (true)), (AV.osl (ol) (1) (0) (m) (m) (1) (true)), (AV.int IntKind.i64 (IntKind.wrap IntKind.i64 ((↑i : Int) + 1)))] [some (AObj.tarr [Sh.int IntKind.u64, Sh.bool, Sh.int IntKind.u32, Sh.int IntKind.u32, Sh.str, Sh.int IntKind.i64, Sh.int IntKind.i64, Sh.bool] (n) f false), some (AObj.tarr [Sh.int IntKind.i64] (m) g false)])))
  (some (2, (CS.mk [(AV.bool (false))] []))))
  (some (0, (CS.mk [(AV.osl (nl) (0) (0) (n) (n) (8) (true)), (AV.osl (ol) (1) (0) (m) (m) (1) (true)), (AV.int IntKind.i64 (IntKind.wrap IntKind.i64 ((↑i : Int) + 1)))] [some (AObj.tarr [Sh.int IntKind.u64, Sh.bool, Sh.int IntKind.u32, Sh.int IntKind.u32, Sh.str, Sh.int IntKind.i64, Sh.int IntKind.i64, Sh.bool] (n) f false), some (AObj.tarr [Sh.int IntKind.i64] (m) g false)])))))
  none)
  none)
  none))
  (some (2, (CS.mk [(AV.bool (false))] []))))
  none)))
  none)
  (some (1, (CS.mk [] [])))) := by
  rw [s12b_is]
  try simp only [eq_self, decide_true, beq_self_eq_true, Nat.beq_refl, ble_self, Int.le_refl, Nat.le_refl]
  cases (decide ((↑i : Int) < (↑m : Int))) with
  | true =>
    cases (Nat.blt (0 + Int.toNat (↑i : Int)) m) with
    | true =>
      cases (decide (AV.toI (g (0 + Int.toNat (↑i : Int)) 0) < 0)) with
      | true =>
        rfl
      | false =>
        cases (decide (AV.toI (g (0 + Int.toNat (↑i : Int)) 0) ≥ (↑n : Int))) with
        | true =>
          rfl
        | false =>
          cases (Nat.ble m 1000) with
          | true =>
            cases (Nat.blt (atV g (AV.toI (g (0 + Int.toNat (↑i : Int)) 0)) m) m) with
            | true =>
              cases ((↑(atV g (AV.toI (g (0 + Int.toNat (↑i : Int)) 0)) m) : Int) != (↑i : Int)) with
              | true =>
                rfl
              | false =>
                cases (decide (0 ≤ AV.toI (g (0 + Int.toNat (↑i : Int)) 0))) with
                | true =>
                  cases (decide (AV.toI (g (0 + Int.toNat (↑i : Int)) 0) < (↑n : Int))) with
                  | true =>
                    cases (Nat.blt (0 + Int.toNat (AV.toI (g (0 + Int.toNat (↑i : Int)) 0))) n) with
                    | true =>
                      cases (AV.toB (f (0 + Int.toNat (AV.toI (g (0 + Int.toNat (↑i : Int)) 0))) (7))) with
                      | true =>
                        rfl
                      | false =>
                        cases (AV.toI (f (0 + Int.toNat (AV.toI (g (0 + Int.toNat (↑i : Int)) 0))) (6)) == 0) with
                        | true =>
                          cases (AV.toB (f (0 + Int.toNat (AV.toI (g (0 + Int.toNat (↑i : Int)) 0))) (1))) with
                          | true =>
                            rfl
                          | false =>
                            rfl
                        | false =>
                          rfl
                    | false =>
                      rfl
                  | false =>
                    rfl
                | false =>
                  rfl
            | false =>
              rfl
          | false =>
            rfl
    | false =>
      rfl
  | false =>
    rfl

noncomputable def k12 (nl : Bool) (n : Nat) (f : Nat → Nat → AV) (ol : Bool) (m : Nat) (g : Nat → Nat → AV) (π : Plan) : Option CS := callC (EA) (1500) (12) (0) (.keep) ([]) π (a12 nl n f ol m g)
def k12_p : Plan := (.must true (.must true (.reck 2 (.must true (.reck 1 (.must true (.fork (.fork (.fork (.must true (.must true (.reck 2 (.must true (.reck 1 (.must true (.must true (.must true (.fork .stop .stop))))))))) .stop) .stop) .stop)))))))
theorem k12_is (nl : Bool) (n : Nat) (f : Nat → Nat → AV) (ol : Bool) (m : Nat) (g : Nat → Nat → AV) : k12 nl n f ol m g k12_p = (cond (decide (n = n)) (cond (decide (m = m)) (cond (decide (n = n)) (cond (decide (m = m)) (cond (Nat.ble n 1000)
  (cond (Nat.ble m 1000)
  (cond ((okMV f (n) g (m)))
  (cond (decide (n = n)) (cond (decide (m = m)) (cond (decide (n = n)) (cond (decide (m = m)) (cond (Nat.ble n 1000) (cond (Nat.ble m 1000) (cond ((okWV f (n) g (m)))
  (some (CS.mk [(AV.bool (true))] []))
  (some (CS.mk [(AV.bool (false))] []))) none) none) none) none) none) none)
  (some (CS.mk [(AV.bool (false))] [])))
  none)
  none) none) none) none) none) := by kernel_rfl
theorem k12_eq (nl : Bool) (n : Nat) (f : Nat → Nat → AV) (ol : Bool) (m : Nat) (g : Nat → Nat → AV) : k12 nl n f ol m g k12_p = (cond (Nat.ble n 1000)
  (cond (Nat.ble m 1000)
  (cond (okMV f (n) g (m))
  (cond (okWV f (n) g (m))
  (some (CS.mk [(AV.bool (true))] []))
  (some (CS.mk [(AV.bool (false))] [])))
  (some (CS.mk [(AV.bool (false))] [])))
  none)
  none) := by
  rw [k12_is]
  try simp only [eq_self, decide_true, beq_self_eq_true, Nat.beq_refl, ble_self, Int.le_refl, Nat.le_refl]
  cases (Nat.ble n 1000) with
  | true =>
    cases (Nat.ble m 1000) with
    | true =>
      cases (okMV f (n) g (m)) with
      | true =>
        cases (okWV f (n) g (m)) with
        | true =>
          rfl
        | false =>
          rfl
      | false =>
        rfl
    | false =>
      rfl
  | false =>
    rfl

noncomputable def s14a (nl : Bool) (n : Nat) (f : Nat → Nat → AV) (sq : Nat → Nat → AV) (ol : Bool) (m : Nat) (g : Nat → Nat → AV) (i : Nat) (π : Plan) : Option (Nat × CS) := stepC (EB) (400) (loopC EB 14 0) (0) (h14a) ((.normal, h14a) :: x14a) π (c14a nl n f sq ol m g i)
def s14a_p : Plan := (.fork (.reck 1 (.must true (.fork (.fork (.must true (.must true (.must true (.must false (.fork (.must true (.must true (.fork (.fork (.must true (.fork (.must false (.fork (.must true (.must true (.must true (.must true (.must true (.must true (.must true (.fork (.must true (.must true (.fork (.must true (.must true (.must true (.must false (.must true (.must true (.must false (.fork .stop (.must true (.must true (.must true .stop))))))))))) (.must false (.must false (.must true (.must true (.must true (.must true (.must false (.reck 1 (.must true (.must true (.must true .stop)))))))))))))) (.must false (.must false (.must false (.must false (.must true (.must false .stop)))))))))))))) (.must false (.must false (.must false (.must false (.must false (.must true .stop)))))))) .stop)) .stop) .stop))) (.must false (.must false (.must false (.must true .stop))))))))) (.must false (.must false (.must false (.must true .stop))))) .stop))) .stop)
theorem s14a_is (nl : Bool) (n : Nat) (f : Nat → Nat → AV) (sq : Nat → Nat → AV) (ol : Bool) (m : Nat) (g : Nat → Nat → AV) (i : Nat) : s14a nl n f sq ol m g i s14a_p = (cond (decide ((↑i : Int) < (↑m : Int)))
  (cond (decide ((↑i : Int) < (↑m : Int))) (cond (Nat.blt (0 + Int.toNat (↑i : Int)) m)
  (cond (decide (AV.toI (g (0 + Int.toNat (↑i : Int)) 0) < 0) == false)
  (cond (decide (AV.toI (g (0 + Int.toNat (↑i : Int)) 0) < 0) == false) (cond (decide (AV.toI (g (0 + Int.toNat (↑i : Int)) 0) < 0) == false) (cond (decide (AV.toI (g (0 + Int.toNat (↑i : Int)) 0) < 0) == false) (cond (decide (AV.toI (g (0 + Int.toNat (↑i : Int)) 0) < 0)) none (cond (decide (AV.toI (g (0 + Int.toNat (↑i : Int)) 0) ≥ (↑n : Int)) == false)
  (cond (decide (AV.toI (g (0 + Int.toNat (↑i : Int)) 0) ≥ (↑n : Int)) == false) (cond (decide (AV.toI (g (0 + Int.toNat (↑i : Int)) 0) ≥ (↑n : Int)) == false) (cond (decide (0 ≤ AV.toI (g (0 + Int.toNat (↑i : Int)) 0)))
  (cond (decide (AV.toI (g (0 + Int.toNat (↑i : Int)) 0) < (↑n : Int)))
  (cond (decide (AV.toI (g (0 + Int.toNat (↑i : Int)) 0) ≥ (↑n : Int)) == false) (cond (Nat.blt (0 + Int.toNat (AV.toI (g (0 + Int.toNat (↑i : Int)) 0))) n)
  (cond (decide (AV.toI (g (0 + Int.toNat (↑i : Int)) 0) ≥ (↑n : Int))) none (cond (AV.toB (sq (0 + Int.toNat (AV.toI (g (0 + Int.toNat (↑i : Int)) 0))) 0) == false)
  (cond (AV.toB (sq (0 + Int.toNat (AV.toI (g (0 + Int.toNat (↑i : Int)) 0))) 0) == false) (cond (AV.toB (sq (0 + Int.toNat (AV.toI (g (0 + Int.toNat (↑i : Int)) 0))) 0) == false) (cond (decide (0 ≤ AV.toI (g (0 + Int.toNat (↑i : Int)) 0))) (cond (decide (AV.toI (g (0 + Int.toNat (↑i : Int)) 0) < (↑n : Int))) (cond (AV.toB (sq (0 + Int.toNat (AV.toI (g (0 + Int.toNat (↑i : Int)) 0))) 0) == false) (cond (Nat.blt (0 + Int.toNat (AV.toI (g (0 + Int.toNat (↑i : Int)) 0))) n) (cond (AV.toB (sq (0 + Int.toNat (AV.toI (g (0 + Int.toNat (↑i : Int)) 0))) 0) == false) (cond ((!AV.toB (f (0 + Int.toNat (AV.toI (g (0 + Int.toNat (↑i : Int)) 0))) (7))) == true)
  (cond ((!AV.toB (f (0 + Int.toNat (AV.toI (g (0 + Int.toNat (↑i : Int)) 0))) (7))) == true) (cond ((!AV.toB (f (0 + Int.toNat (AV.toI (g (0 + Int.toNat (↑i : Int)) 0))) (7))) == true) (cond (AV.toB (f (0 + Int.toNat (AV.toI (g (0 + Int.toNat (↑i : Int)) 0))) (1)) == false)
  (cond (AV.toB (f (0 + Int.toNat (AV.toI (g (0 + Int.toNat (↑i : Int)) 0))) (1)) == false) (cond (AV.toB (f (0 + Int.toNat (AV.toI (g (0 + Int.toNat (↑i : Int)) 0))) (1)) == false) (cond ((!AV.toB (f (0 + Int.toNat (AV.toI (g (0 + Int.toNat (↑i : Int)) 0))) (7))) == true) (cond (AV.toB (f (0 + Int.toNat (AV.toI (g (0 + Int.toNat (↑i : Int)) 0))) (1))) none (cond (!AV.toB (f (0 + Int.toNat (AV.toI (g (0 + Int.toNat (↑i : Int)) 0))) (7))) (cond (AV.toB (sq (0 + Int.toNat (AV.toI (g (0 + Int.toNat (↑i : Int)) 0))) 0) == false) (cond (AV.toB (sq (0 + Int.toNat (AV.toI (g (0 + Int.toNat (↑i : Int)) 0))) 0)) none (cond (!AV.toI (f (0 + Int.toNat (AV.toI (g (0 + Int.toNat (↑i : Int)) 0))) (6)) != 0)
  (some (2, (CS.mk [(AV.bool (false))] [])))
  (cond (decide (0 ≤ AV.toI (g (0 + Int.toNat (↑i : Int)) 0))) (cond (decide (AV.toI (g (0 + Int.toNat (↑i : Int)) 0) < (↑n : Int))) (cond (Nat.blt (0 + Int.toNat (AV.toI (g (0 + Int.toNat (↑i : Int)) 0))) n) (some (0, (CS.mk [(AV.osl (nl) (0) (0) (n) (n) (8) (true)), (AV.osl (false) (1) (0) (n) (n) (1) (true)), (AV.osl (ol) (2) (0) (m) (m) (1) (true)), (AV.int IntKind.i64 ((↑m : Int))), (AV.int IntKind.i64 (IntKind.wrap IntKind.i64 ((↑i : Int) + 1)))] [some (AObj.tarr [Sh.int IntKind.u64, Sh.bool, Sh.int IntKind.u32, Sh.int IntKind.u32, Sh.str, Sh.int IntKind.i64, Sh.int IntKind.i64, Sh.bool] (n) f false), some (AObj.tarr [Sh.bool] (n) (fput sq (0 + Int.toNat (AV.toI (g (0 + Int.toNat (↑i : Int)) 0))) (0) [(AV.bool (true))]) true), some (AObj.tarr [Sh.int IntKind.i64] (m) g false)]))) none) none) none))) none) none)) none) none) none)
  (cond (AV.toB (f (0 + Int.toNat (AV.toI (g (0 + Int.toNat (↑i : Int)) 0))) (1)) == false) none (cond (AV.toB (f (0 + Int.toNat (AV.toI (g (0 + Int.toNat (↑i : Int)) 0))) (1)) == false) none (cond ((!AV.toB (f (0 + Int.toNat (AV.toI (g (0 + Int.toNat (↑i : Int)) 0))) (7))) == true) (cond (AV.toB (f (0 + Int.toNat (AV.toI (g (0 + Int.toNat (↑i : Int)) 0))) (1))) (cond (!AV.toB (f (0 + Int.toNat (AV.toI (g (0 + Int.toNat (↑i : Int)) 0))) (7))) (cond (AV.toB (sq (0 + Int.toNat (AV.toI (g (0 + Int.toNat (↑i : Int)) 0))) 0) == false) (cond (AV.toB (sq (0 + Int.toNat (AV.toI (g (0 + Int.toNat (↑i : Int)) 0))) 0)) none (cond (decide (0 ≤ AV.toI (g (0 + Int.toNat (↑i : Int)) 0))) (cond (decide (AV.toI (g (0 + Int.toNat (↑i : Int)) 0) < (↑n : Int))) (cond (Nat.blt (0 + Int.toNat (AV.toI (g (0 + Int.toNat (↑i : Int)) 0))) n) (some (0, (CS.mk [(AV.osl (nl) (0) (0) (n) (n) (8) (true)), (AV.osl (false) (1) (0) (n) (n) (1) (true)), (AV.osl (ol) (2) (0) (m) (m) (1) (true)), (AV.int IntKind.i64 ((↑m : Int))), (AV.int IntKind.i64 (IntKind.wrap IntKind.i64 ((↑i : Int) + 1)))] [some (AObj.tarr [Sh.int IntKind.u64, Sh.bool, Sh.int IntKind.u32, Sh.int IntKind.u32, Sh.str, Sh.int IntKind.i64, Sh.int IntKind.i64, Sh.bool] (n) f false), some (AObj.tarr [Sh.bool] (n) (fput sq (0 + Int.toNat (AV.toI (g (0 + Int.toNat (↑i : Int)) 0))) (0) [(AV.bool (true))]) true), some (AObj.tarr [Sh.int IntKind.i64] (m) g false)]))) none) none) none)) none) none) none) none)))) none) none)
  (cond ((!AV.toB (f (0 + Int.toNat (AV.toI (g (0 + Int.toNat (↑i : Int)) 0))) (7))) == true) none (cond ((!AV.toB (f (0 + Int.toNat (AV.toI (g (0 + Int.toNat (↑i : Int)) 0))) (7))) == true) none (cond ((!AV.toB (f (0 + Int.toNat (AV.toI (g (0 + Int.toNat (↑i : Int)) 0))) (7))) == true) none (cond (!AV.toB (f (0 + Int.toNat (AV.toI (g (0 + Int.toNat (↑i : Int)) 0))) (7))) none (cond (AV.toB (sq (0 + Int.toNat (AV.toI (g (0 + Int.toNat (↑i : Int)) 0))) 0) == false) (cond (AV.toB (sq (0 + Int.toNat (AV.toI (g (0 + Int.toNat (↑i : Int)) 0))) 0)) none (some (2, (CS.mk [(AV.bool (false))] [])))) none)))))) none) none) none) none) none) none) none)
  (cond (AV.toB (sq (0 + Int.toNat (AV.toI (g (0 + Int.toNat (↑i : Int)) 0))) 0) == false) none (cond (AV.toB (sq (0 + Int.toNat (AV.toI (g (0 + Int.toNat (↑i : Int)) 0))) 0) == false) none (cond (AV.toB (sq (0 + Int.toNat (AV.toI (g (0 + Int.toNat (↑i : Int)) 0))) 0) == false) none (cond (AV.toB (sq (0 + Int.toNat (AV.toI (g (0 + Int.toNat (↑i : Int)) 0))) 0) == false) none (cond (AV.toB (sq (0 + Int.toNat (AV.toI (g (0 + Int.toNat (↑i : Int)) 0))) 0) == false) none (cond (AV.toB (sq (0 + Int.toNat (AV.toI (g (0 + Int.toNat (↑i : Int)) 0))) 0)) (some (2, (CS.mk [(AV.bool (false))] []))) none))))))))
  none) none)
  none)
  none) none) none)
  (cond (decide (AV.toI (g (0 + Int.toNat (↑i : Int)) 0) ≥ (↑n : Int)) == false) none (cond (decide (AV.toI (g (0 + Int.toNat (↑i : Int)) 0) ≥ (↑n : Int)) == false) none (cond (decide (AV.toI (g (0 + Int.toNat (↑i : Int)) 0) ≥ (↑n : Int)) == false) none (cond (decide (AV.toI (g (0 + Int.toNat (↑i : Int)) 0) ≥ (↑n : Int))) (some (2, (CS.mk [(AV.bool (false))] []))) none)))))) none) none) none)
  (cond (decide (AV.toI (g (0 + Int.toNat (↑i : Int)) 0) < 0) == false) none (cond (decide (AV.toI (g (0 + Int.toNat (↑i : Int)) 0) < 0) == false) none (cond (decide (AV.toI (g (0 + Int.toNat (↑i : Int)) 0) < 0) == false) none (cond (decide (AV.toI (g (0 + Int.toNat (↑i : Int)) 0) < 0)) (some (2, (CS.mk [(AV.bool (false))] []))) none)))))
  none) none)
  (some (1, (CS.mk [(AV.osl (nl) (0) (0) (n) (n) (8) (true)), (AV.osl (false) (1) (0) (n) (n) (1) (true))] [some (AObj.tarr [Sh.int IntKind.u64, Sh.bool, Sh.int IntKind.u32, Sh.int IntKind.u32, Sh.str, Sh.int IntKind.i64, Sh.int IntKind.i64, Sh.bool] (n) f false), some (AObj.tarr [Sh.bool] (n) sq true)])))) := by kernel_rfl
theorem s14a_eq (nl : Bool) (n : Nat) (f : Nat → Nat → AV) (sq : Nat → Nat → AV) (ol : Bool) (m : Nat) (g : Nat → Nat → AV) (i : Nat) : s14a nl n f sq ol m g i s14a_p = (cond (decide ((↑i : Int) < (↑m : Int)))
  (cond (Nat.blt (0 + Int.toNat (↑i : Int)) m)
  (cond (decide (AV.toI (g (0 + Int.toNat (↑i : Int)) 0) < 0))
  (some (2, (CS.mk [(AV.bool (false))] [])))
  (cond (decide (AV.toI (g (0 + Int.toNat (↑i : Int)) 0) ≥ (↑n : Int)))
  (some (2, (CS.mk [(AV.bool (false))] [])))
  (cond (decide (0 ≤ AV.toI (g (0 + Int.toNat (↑i : Int)) 0)))
  (cond (decide (AV.toI (g (0 + Int.toNat (↑i : Int)) 0) < (↑n : Int)))
  (cond (Nat.blt (0 + Int.toNat (AV.toI (g (0 + Int.toNat (↑i : Int)) 0))) n)
  (cond (AV.toB (sq (0 + Int.toNat (AV.toI (g (0 + Int.toNat (↑i : Int)) 0))) 0))
  (some (2, (CS.mk [(AV.bool (false))] [])))
  (cond (AV.toB (f (0 + Int.toNat (AV.toI (g (0 + Int.toNat (↑i : Int)) 0))) (7)))
  (some (2, (CS.mk [(AV.bool (false))] [])))
  (cond (AV.toB (f (0 + Int.toNat (AV.toI (g (0 + Int.toNat (↑i : Int)) 0))) (1)))
  (some (0, (CS.mk [(AV.osl (nl) (0) (0) (n) (n) (8) (true)), (AV.osl (false) (1) (0) (n) (n) (1) (true)), (AV.osl (ol) (2) (0) (m) (m) (1) (true)), (AV.int IntKind.i64 ((↑m : Int))), (AV.int IntKind.i64 (IntKind.wrap IntKind.i64 ((↑i : Int) + 1)))] [some (AObj.tarr [Sh.int IntKind.u64, Sh.bool, Sh.int IntKind.u32, Sh.int IntKind.u32, Sh.str, Sh.int IntKind.i64, Sh.int IntKind.i64, Sh.bool] (n) f false), some (AObj.tarr [Sh.bool] (n) (fput sq (0 + Int.toNat (AV.toI (g (0 + Int.toNat (↑i : Int)) 0))) (0) [(AV.bool (true))]) true), some (AObj.tarr [Sh.int IntKind.i64] (m) g false)])))
  (cond (AV.toI (f (0 + Int.toNat (AV.toI (g (0 + Int.toNat (↑i : Int)) 0))) (6)) != 0)
  (some (0, (CS.mk [(AV.osl (nl) (0) (0) (n) (n) (8) (true)), (AV.osl (false) (1) (0) (n) (n) (1) (true)), (AV.osl (ol) (2) (0) (m) (m) (1) (true)), (AV.int IntKind.i64 ((↑m : Int))), (AV.int IntKind.i64 (IntKind.wrap IntKind.i64 ((↑i : Int) + 1)))] [some (AObj.tarr [Sh.int IntKind.u64, Sh.bool, Sh.int IntKind.u32, Sh.int IntKind.u32, Sh.str, Sh.int IntKind.i64, Sh.int IntKind.i64, Sh.bool] (n) f false), some (AObj.tarr [Sh.bool] (n) (fput sq (0 + Int.toNat (AV.toI (g (0 + Int.toNat (↑i : Int)) 0))) (0) [(AV.bool (true))]) true), some (AObj.tarr [Sh.int IntKind.i64] (m) g false)])))
  (some (2, (CS.mk [(AV.bool (false))] [])))))))
  none)
  none)
  none)))
  none)
  (some (1, (CS.mk [(AV.osl (nl) (0) (0) (n) (n) (8) (true)), (AV.osl (false) (1) (0) (n) (n) (1) (true))] [some (AObj.tarr [Sh.int IntKind.u64, Sh.bool, Sh.int IntKind.u32, Sh.int IntKind.u32, Sh.str, Sh.int IntKind.i64, Sh.int IntKind.i64, Sh.bool] (n) f false), some (AObj.tarr [Sh.bool] (n) sq true)])))) := by
  rw [s14a_is]
  try simp only [eq_self, decide_true, beq_self_eq_true, Nat.beq_refl, ble_self, Int.le_refl, Nat.le_refl]
  cases (decide ((↑i : Int) < (↑m : Int))) with
  | true =>
    cases (Nat.blt (0 + Int.toNat (↑i : Int)) m) with
    | true =>
      cases (decide (AV.toI (g (0 + Int.toNat (↑i : Int)) 0) < 0)) with
      | true =>
        rfl
      | false =>
        cases (decide (AV.toI (g (0 + Int.toNat (↑i : Int)) 0) ≥ (↑n : Int))) with
        | true =>
          rfl
        | false =>
          cases (decide (0 ≤ AV.toI (g (0 + Int.toNat (↑i : Int)) 0))) with
          | true =>
            cases (decide (AV.toI (g (0 + Int.toNat (↑i : Int)) 0) < (↑n : Int))) with
            | true =>
              cases (Nat.blt (0 + Int.toNat (AV.toI (g (0 + Int.toNat (↑i : Int)) 0))) n) with
              | true =>
                cases (AV.toB (sq (0 + Int.toNat (AV.toI (g (0 + Int.toNat (↑i : Int)) 0))) 0)) with
                | true =>
                  rfl
                | false =>
                  cases (AV.toB (f (0 + Int.toNat (AV.toI (g (0 + Int.toNat (↑i : Int)) 0))) (7))) with
                  | true =>
                    rfl
                  | false =>
                    cases (AV.toB (f (0 + Int.toNat (AV.toI (g (0 + Int.toNat (↑i : Int)) 0))) (1))) with
                    | true =>
                      rfl
                    | false =>
                      cases (AV.toI (f (0 + Int.toNat (AV.toI (g (0 + Int.toNat (↑i : Int)) 0))) (6)) != 0) with
                      | true =>
                        rfl
                      | false =>
                        rfl
              | false =>
                rfl
            | false =>
              rfl
          | false =>
            rfl
    | false =>
      rfl
  | false =>
    rfl

noncomputable def s14b (n : Nat) (sq : Nat → Nat → AV) (nl : Bool) (f : Nat → Nat → AV) (i : Nat) (π : Plan) : Option (Nat × CS) := stepC (EC) (400) (loopC EC 14 2) (0) (h14b) ((.normal, h14b) :: x14b) π (c14b n sq nl f i)
def s14b_p : Plan := (.fork (.reck 1 (.must true (.fork (.fork (.must true (.must true (.must true (.fork (.must true (.must true (.reck 1 (.must true (.must true (.must true (.must true (.must true (.fork .stop .stop))))))))) (.must false (.must false (.must false (.must false (.must false .stop))))))))) (.must false (.must false (.must false .stop)))) .stop))) .stop)
theorem s14b_is (n : Nat) (sq : Nat → Nat → AV) (nl : Bool) (f : Nat → Nat → AV) (i : Nat) : s14b n sq nl f i s14b_p = (cond (decide ((↑i : Int) < (↑n : Int)))
  (cond (decide ((↑i : Int) < (↑n : Int))) (cond (Nat.blt (0 + Int.toNat (↑i : Int)) n)
  (cond ((!AV.toB (f (0 + Int.toNat (↑i : Int)) (7))) == true)
  (cond ((!AV.toB (f (0 + Int.toNat (↑i : Int)) (7))) == true) (cond ((!AV.toB (f (0 + Int.toNat (↑i : Int)) (7))) == true) (cond (!AV.toB (f (0 + Int.toNat (↑i : Int)) (7))) (cond ((AV.toI (f (0 + Int.toNat (↑i : Int)) (6)) != 0) == true)
  (cond ((AV.toI (f (0 + Int.toNat (↑i : Int)) (6)) != 0) == true) (cond ((AV.toI (f (0 + Int.toNat (↑i : Int)) (6)) != 0) == true) (cond (decide ((↑i : Int) < (↑n : Int))) (cond ((AV.toI (f (0 + Int.toNat (↑i : Int)) (6)) != 0) == true) (cond (Nat.blt (0 + Int.toNat (↑i : Int)) n) (cond ((AV.toI (f (0 + Int.toNat (↑i : Int)) (6)) != 0) == true) (cond (AV.toI (f (0 + Int.toNat (↑i : Int)) (6)) != 0) (cond (!AV.toB (sq (0 + Int.toNat (↑i : Int)) 0))
  (some (2, (CS.mk [(AV.bool (false))] [])))
  (some (0, (CS.mk [(AV.osl (false) (0) (0) (n) (n) (1) (true)), (AV.osl (nl) (1) (0) (n) (n) (8) (true)), (AV.int IntKind.i64 ((↑n : Int))), (AV.int IntKind.i64 (IntKind.wrap IntKind.i64 ((↑i : Int) + 1)))] [some (AObj.tarr [Sh.bool] (n) sq true), some (AObj.tarr [Sh.int IntKind.u64, Sh.bool, Sh.int IntKind.u32, Sh.int IntKind.u32, Sh.str, Sh.int IntKind.i64, Sh.int IntKind.i64, Sh.bool] (n) f false)])))) none) none) none) none) none) none) none)
  (cond ((AV.toI (f (0 + Int.toNat (↑i : Int)) (6)) != 0) == true) none (cond ((AV.toI (f (0 + Int.toNat (↑i : Int)) (6)) != 0) == true) none (cond ((AV.toI (f (0 + Int.toNat (↑i : Int)) (6)) != 0) == true) none (cond ((AV.toI (f (0 + Int.toNat (↑i : Int)) (6)) != 0) == true) none (cond (AV.toI (f (0 + Int.toNat (↑i : Int)) (6)) != 0) none (some (0, (CS.mk [(AV.osl (false) (0) (0) (n) (n) (1) (true)), (AV.osl (nl) (1) (0) (n) (n) (8) (true)), (AV.int IntKind.i64 ((↑n : Int))), (AV.int IntKind.i64 (IntKind.wrap IntKind.i64 ((↑i : Int) + 1)))] [some (AObj.tarr [Sh.bool] (n) sq true), some (AObj.tarr [Sh.int IntKind.u64, Sh.bool, Sh.int IntKind.u32, Sh.int IntKind.u32, Sh.str, Sh.int IntKind.i64, Sh.int IntKind.i64, Sh.bool] (n) f false)]))))))))) none) none) none)
  (cond ((!AV.toB (f (0 + Int.toNat (↑i : Int)) (7))) == true) none (cond ((!AV.toB (f (0 + Int.toNat (↑i : Int)) (7))) == true) none (cond (!AV.toB (f (0 + Int.toNat (↑i : Int)) (7))) none (some (0, (CS.mk [(AV.osl (false) (0) (0) (n) (n) (1) (true)), (AV.osl (nl) (1) (0) (n) (n) (8) (true)), (AV.int IntKind.i64 ((↑n : Int))), (AV.int IntKind.i64 (IntKind.wrap IntKind.i64 ((↑i : Int) + 1)))] [some (AObj.tarr [Sh.bool] (n) sq true), some (AObj.tarr [Sh.int IntKind.u64, Sh.bool, Sh.int IntKind.u32, Sh.int IntKind.u32, Sh.str, Sh.int IntKind.i64, Sh.int IntKind.i64, Sh.bool] (n) f false)])))))))
  none) none)
  (some (1, (CS.mk [] [])))) := by kernel_rfl
theorem s14b_eq (n : Nat) (sq : Nat → Nat → AV) (nl : Bool) (f : Nat → Nat → AV) (i : Nat) : s14b n sq nl f i s14b_p = (cond (decide ((↑i : Int) < (↑n : Int)))
  (cond (Nat.blt (0 + Int.toNat (↑i : Int)) n)
  (cond (AV.toB (f (0 + Int.toNat (↑i : Int)) (7)))
  (some (0, (CS.mk [(AV.osl (false) (0) (0) (n) (n) (1) (true)), (AV.osl (nl) (1) (0) (n) (n) (8) (true)), (AV.int IntKind.i64 ((↑n : Int))), (AV.int IntKind.i64 (IntKind.wrap IntKind.i64 ((↑i : Int) + 1)))] [some (AObj.tarr [Sh.bool] (n) sq true), some (AObj.tarr [Sh.int IntKind.u64, Sh.bool, Sh.int IntKind.u32, Sh.int IntKind.u32, Sh.str, Sh.int IntKind.i64, Sh.int IntKind.i64, Sh.bool] (n) f false)])))
  (cond (AV.toI (f (0 + Int.toNat (↑i : Int)) (6)) != 0)
  (cond (AV.toB (sq (0 + Int.toNat (↑i : Int)) 0))
  (some (0, (CS.mk [(AV.osl (false) (0) (0) (n) (n) (1) (true)), (AV.osl (nl) (1) (0) (n) (n) (8) (true)), (AV.int IntKind.i64 ((↑n : Int))), (AV.int IntKind.i64 (IntKind.wrap IntKind.i64 ((↑i : Int) + 1)))] [some (AObj.tarr [Sh.bool] (n) sq true), some (AObj.tarr [Sh.int IntKind.u64, Sh.bool, Sh.int IntKind.u32, Sh.int IntKind.u32, Sh.str, Sh.int IntKind.i64, Sh.int IntKind.i64, Sh.bool] (n) f false)])))
  (some (2, (CS.mk [(AV.bool (false))] []))))
  (some (0, (CS.mk [(AV.osl (false) (0) (0) (n) (n) (1) (true)), (AV.osl (nl) (1) (0) (n) (n) (8) (true)), (AV.int IntKind.i64 ((↑n : Int))), (AV.int IntKind.i64 (IntKind.wrap IntKind.i64 ((↑i : Int) + 1)))] [some (AObj.tarr [Sh.bool] (n) sq true), some (AObj.tarr [Sh.int IntKind.u64, Sh.bool, Sh.int IntKind.u32, Sh.int IntKind.u32, Sh.str, Sh.int IntKind.i64, Sh.int IntKind.i64, Sh.bool] (n) f false)])))))
  none)
  (some (1, (CS.mk [] [])))) := by
  rw [s14b_is]
  try simp only [eq_self, decide_true, beq_self_eq_true, Nat.beq_refl, ble_self, Int.le_refl, Nat.le_refl]
  cases (decide ((↑i : Int) < (↑n : Int))) with
  | true =>
    cases (Nat.blt (0 + Int.toNat (↑i : Int)) n) with
    | true =>
      cases (AV.toB (f (0 + Int.toNat (↑i : Int)) (7))) with
      | true =>
        rfl
      | false =>
        cases (AV.toI (f (0 + Int.toNat (↑i : Int)) (6)) != 0) with
        | true =>
          cases (AV.toB (sq (0 + Int.toNat (↑i : Int)) 0)) with
          | true =>
            rfl
          | false =>
            rfl
        | false =>
          rfl
    | false =>
      rfl
  | false =>
    rfl

noncomputable def k14 (nl : Bool) (n : Nat) (f : Nat → Nat → AV) (ol : Bool) (m : Nat) (g : Nat → Nat → AV) (π : Plan) : Option CS := callC (ED) (1500) (14) (0) (.keep) ([]) π (a12 nl n f ol m g)
def k14_p : Plan := (.reck 1 (.must true (.fork (.fork (.must true (.reck 1 (.fork (.must true (.must true (.must true (.reck 2 (.must true (.reck 1 (.must true (.reck 1 (.must true (.fork (.fork (.fork (.fork (.reck 2 (.must true (.must true (.must true (.must true (.reck 2 (.must true (.reck 1 (.must true (.must true (.fork .stop .stop))))))))))) .stop) .stop) .stop) .stop)))))))))) .stop))) .stop) .stop)))
theorem k14_is (nl : Bool) (n : Nat) (f : Nat → Nat → AV) (ol : Bool) (m : Nat) (g : Nat → Nat → AV) : k14 nl n f ol m g k14_p = (cond (decide ((↑n : Int) ≤ (↑n : Int))) (cond (decide ((↑n : Int) ≤ 281474976710656))
  (cond (Nat.ble (1 * Int.toNat (↑n : Int)) 281474976710656)
  (cond (decide (n = n)) (cond (decide (n = Int.toNat (↑n : Int)))
  (cond (decide (n = Int.toNat (↑n : Int))) (cond (decide (m = m)) (cond (decide ((↑m : Int) = (↑m : Int))) (cond (decide (n = n)) (cond (decide (n = Int.toNat (↑n : Int))) (cond (decide (m = m)) (cond (Nat.ble n 1000)
  (cond (Nat.ble m 1000)
  (cond ((okZV (fun p_ q_ => getAt [(AV.bool (false))] (q_)) (n)))
  (cond ((okSV f (n) g (m)))
  (cond (decide (n = n)) (cond (decide (n = n)) (cond (decide (n = n)) (cond (decide ((↑n : Int) = (↑n : Int))) (cond (decide (n = n)) (cond (decide (n = n)) (cond (Nat.ble n 1000) (cond ((okTV f (n) (seenV g (m))))
  (some (CS.mk [(AV.bool (true))] []))
  (some (CS.mk [(AV.bool (false))] []))) none) none) none) none) none) none) none)
  (some (CS.mk [(AV.bool (false))] [])))
  none)
  none)
  none) none) none) none) none) none) none)
  none) none)
  none)
  none) none) := by kernel_rfl
theorem k14_eq (nl : Bool) (n : Nat) (f : Nat → Nat → AV) (ol : Bool) (m : Nat) (g : Nat → Nat → AV) : k14 nl n f ol m g k14_p = (cond (decide ((↑n : Int) ≤ 281474976710656))
  (cond (Nat.ble (1 * Int.toNat (↑n : Int)) 281474976710656)
  (cond (decide (n = Int.toNat (↑n : Int)))
  (cond (Nat.ble n 1000)
  (cond (Nat.ble m 1000)
  (cond (okZV (fun p_ q_ => getAt [(AV.bool (false))] (q_)) (n))
  (cond (okSV f (n) g (m))
  (cond (okTV f (n) (seenV g (m)))
  (some (CS.mk [(AV.bool (true))] []))
  (some (CS.mk [(AV.bool (false))] [])))
  (some (CS.mk [(AV.bool (false))] [])))
  none)
  none)
  none)
  none)
  none)
  none) := by
  rw [k14_is]
  try simp only [eq_self, decide_true, beq_self_eq_true, Nat.beq_refl, ble_self, Int.le_refl, Nat.le_refl]
  cases (decide ((↑n : Int) ≤ 281474976710656)) with
  | true =>
    cases (Nat.ble (1 * Int.toNat (↑n : Int)) 281474976710656) with
    | true =>
      cases (decide (n = Int.toNat (↑n : Int))) with
      | true =>
        cases (Nat.ble n 1000) with
        | true =>
          cases (Nat.ble m 1000) with
          | true =>
            cases (okZV (fun p_ q_ => getAt [(AV.bool (false))] (q_)) (n)) with
            | true =>
              cases (okSV f (n) g (m)) with
              | true =>
                cases (okTV f (n) (seenV g (m))) with
                | true =>
                  rfl
                | false =>
                  rfl
              | false =>
                rfl
            | false =>
              rfl
          | false =>
            rfl
        | false =>
          rfl
      | false =>
        rfl
    | false =>
      rfl
  | false =>
    rfl

end Go.Proofs.Ytbcilfbdbphjgaa.witnessValid
