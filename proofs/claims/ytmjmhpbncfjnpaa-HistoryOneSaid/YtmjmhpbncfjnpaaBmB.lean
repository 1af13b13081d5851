/- The abstract machine: values, objects, types, and the operations on them. -/
import Derived.Test.YtmjmhpbncfjnpaaBmA
set_option linter.unusedSimpArgs false
set_option linter.unusedVariables false
namespace Go.Proofs.Ytmjmhpbncfjnpaa.Bm
inductive AV where
 | bool (b : Bool)
 | int (k : IntKind) (n : Int)
 | str (s : List Nat)
 | ptr (id off : Nat)
 | nilPtr
 | slice (id off len cap es : Nat) (hid : Bool)
 | tptr (id i j es : Nat)
 | tsl (id off len cap es : Nat) (hid : Bool)
 | osl (nl : Bool) (id off len cap es : Nat) (hid : Bool)
 | nilSlice
 | map (id : Nat)
 | nilMap
 | func (fn : Fn) (first captured : List AV)
 | yld (l : Nat)
 | nilFunc
 | iface (t : TypeId) (v : AV)
 | nilIface
 | agg (cs : List AV)
 | tuple (vs : List AV)
 | bad
 deriving Inhabited
def AV.undef : AV := .tuple []
mutual
def AV.beq : AV → AV → Bool
 | .bool a, .bool b => a == b
 | .int k a, .int l b => decide (k = l) && decide (a = b)
 | .str a, .str b => a == b
 | .ptr a b, .ptr c d => Nat.beq a c && Nat.beq b d
 | .nilPtr, .nilPtr => true
 | .slice a b c d e f, .slice a' b' c' d' e' f' => Nat.beq a a' && Nat.beq b b' && Nat.beq c c' && Nat.beq d d' && Nat.beq e e' && (f == f')
 | .tptr a b c d, .tptr a' b' c' d' => Nat.beq a a' && Nat.beq b b' && Nat.beq c c' && Nat.beq d d'
 | .tsl a b c d e f, .tsl a' b' c' d' e' f' => Nat.beq a a' && Nat.beq b b' && Nat.beq c c' && Nat.beq d d' && Nat.beq e e' && (f == f')
 | .osl n a b c d e f, .osl n' a' b' c' d' e' f' => (n == n') && Nat.beq a a' && Nat.beq b b' && Nat.beq c c' && Nat.beq d d' && Nat.beq e e' && (f == f')
 | .nilSlice, .nilSlice => true
 | .map a, .map b => Nat.beq a b
 | .nilMap, .nilMap => true
 | .func f a b, .func g c d => decide (f = g) && AV.beqL a c && AV.beqL b d
 | .yld a, .yld b => Nat.beq a b
 | .nilFunc, .nilFunc => true
 | .iface t a, .iface u b => Nat.beq t u && AV.beq a b
 | .nilIface, .nilIface => true
 | .agg a, .agg b => AV.beqL a b
 | .tuple a, .tuple b => AV.beqL a b
 | _, _ => false
def AV.beqL : List AV → List AV → Bool
 | [], [] => true
 | a :: as, b :: bs => AV.beq a b && AV.beqL as bs
 | _, _ => false
end
mutual
theorem AV.eq_of_beq : ∀ a b : AV, AV.beq a b = true → a = b
 | .bool a, b, h => by cases b <;> simp_all [AV.beq]
 | .int k a, b, h => by cases b <;> simp_all [AV.beq]
 | .str a, b, h => by cases b <;> simp_all [AV.beq]
 | .ptr a c, b, h => by cases b <;> simp_all [AV.beq]
 | .nilPtr, b, h => by cases b <;> simp_all [AV.beq]
 | .slice a1 a2 a3 a4 a5 a6, b, h => by cases b <;> simp_all [AV.beq]
 | .tptr a1 a2 a3 a4, b, h => by cases b <;> simp_all [AV.beq]
 | .tsl a1 a2 a3 a4 a5 a6, b, h => by cases b <;> simp_all [AV.beq]
 | .osl a0 a1 a2 a3 a4 a5 a6, b, h => by cases b <;> simp_all [AV.beq]
 | .nilSlice, b, h => by cases b <;> simp_all [AV.beq]
 | .map a, b, h => by cases b <;> simp_all [AV.beq]
 | .nilMap, b, h => by cases b <;> simp_all [AV.beq]
 | .func f x y, b, h => by
   cases b <;> simp only [AV.beq, Bool.and_eq_true, decide_eq_true_eq, Bool.false_eq_true] at h
   obtain ⟨⟨rfl, h1⟩, h2⟩ := h
   rw [AV.eq_of_beqL _ _ h1, AV.eq_of_beqL _ _ h2]
 | .yld a, b, h => by cases b <;> simp_all [AV.beq]
 | .nilFunc, b, h => by cases b <;> simp_all [AV.beq]
 | .iface t x, b, h => by
   cases b <;> simp only [AV.beq, Bool.and_eq_true, Bool.false_eq_true] at h
   rw [AV.eq_of_beq _ _ h.2, Nat.eq_of_beq_eq_true h.1]
 | .nilIface, b, h => by cases b <;> simp_all [AV.beq]
 | .agg x, b, h => by
   cases b <;> simp only [AV.beq, Bool.false_eq_true] at h
   rw [AV.eq_of_beqL _ _ h]
 | .tuple x, b, h => by
   cases b <;> simp only [AV.beq, Bool.false_eq_true] at h
   rw [AV.eq_of_beqL _ _ h]
 | .bad, b, h => by cases b <;> simp [AV.beq] at h
theorem AV.eq_of_beqL : ∀ a b : List AV, AV.beqL a b = true → a = b
 | [], b, h => by cases b <;> simp_all [AV.beqL]
 | x :: xs, b, h => by
   cases b with
   | nil => simp [AV.beqL] at h
   | cons y ys =>
     simp only [AV.beqL, Bool.and_eq_true] at h
     rw [AV.eq_of_beq _ _ h.1, AV.eq_of_beqL _ _ h.2]
end
def AV.cells : AV → List AV
 | .agg cs => cs
 | v => [v]
def AV.one : AV → Bool
 | .agg _ => false
 | .tuple _ => false
 | .bad => false
 | _ => true
def AV.isBad : AV → Bool
 | .bad => true
 | _ => false
def bytesOf (s : ByteArray) : List Nat := s.data.toList.map UInt8.toNat
mutual
def ofVal : Value → AV
 | .bool b => .bool b
 | .int k n => .int k n
 | .string s => .str (bytesOf s)
 | .pointer none => .nilPtr
 | .slice none 0 0 => .nilSlice
 | .map none => .nilMap
 | .func (.func f) a b => .func (.func f) (ofArr a) (ofArr b)
 | .nilFunc => .nilFunc
 | .iface t v => .iface t (ofVal v)
 | .nilIface => .nilIface
 | .agg cs => .agg (ofArr cs)
 | .tuple cs => .tuple (ofArr cs)
 | _ => .bad
def ofArr : Array Value → List AV
 | ⟨l⟩ => ofVals l
def ofVals : List Value → List AV
 | [] => []
 | v :: vs => ofVal v :: ofVals vs
end
structure ALoop where
 st : LoopState
 pend : Option Code
 tmps : Tr AV
 size : Nat
 params : List Tmp
 assign : Code
 body : Code
 dfr : Nat
inductive Sh where
 | int (k : IntKind) | str | bool
def AV.toI : AV → Int
 | .int _ n => n
 | _ => 0
def AV.toS : AV → List Nat
 | .str s => s
 | _ => []
def AV.toB : AV → Bool
 | .bool b => b
 | _ => false
def view : Sh → AV → AV
 | .int k, a => .int k a.toI
 | .str, a => .str a.toS
 | .bool, a => .bool a.toB
def trow (f : Nat → AV) : List Sh → Nat → List AV
 | [], _ => []
 | s :: sh, j => view s (f j) :: trow f sh (Nat.succ j)
def tcells (sh : List Sh) (f : Nat → Nat → AV) : Nat → Nat → List AV
 | _, 0 => []
 | i, n + 1 => trow (f i) sh 0 ++ tcells sh f (i + 1) n
inductive AObj where
 | cells (vs : List AV) (rw : Bool)
 | tarr (sh : List Sh) (n : Nat) (f : Nat → Nat → AV) (rw : Bool)
 | map (es : List (AV × AV × Nat)) (clock : Nat)
 | loop (lp : ALoop)
 | defd
 | miter (m : Option Nat) (since : Nat) (seen : List Nat) (last : Nat)
 | omap (ks vs : List Sh) (ka va : Bool) (z : List AV) (has : AV → Bool) (f : AV → Nat → AV) (rw : Bool)
structure St where
 heap : Tr AObj
 next : Nat
structure Fr where
 tmps : Tr AV
 size : Nat
 marks : List Nat
 rnd : Option Nat
def Fr.get (fr : Fr) (t : Tmp) : AV := match fr.tmps.get t with
 | some v => v
 | none => .undef
def Fr.put (fr : Fr) (dst : Option Tmp) (v : AV) : Option Fr := match dst with
 | none => some fr
 | some d => match fr.size with
   | 0 => none
   | n + 1 => cond (Nat.ble d n) (some { tmps := fr.tmps.set d (some v), size := Nat.succ n, marks := fr.marks, rnd := fr.rnd }) none
theorem Fr.put_eq (fr : Fr) (dst : Option Tmp) (v : AV) : fr.put dst v = (match dst with
  | none => some fr
  | some d => cond (Nat.blt d fr.size) (some { fr with tmps := fr.tmps.set d (some v) }) none) := by
 unfold Fr.put
 cases dst with
 | none => rfl
 | some d =>
   obtain ⟨tm, sz, mk, rn⟩ := fr
   cases sz with
   | zero =>
     have : Nat.blt d 0 = false := by
      rw [Bool.eq_false_iff]; intro h; simp [Nat.blt] at h
     simp only [this, cond_false]
   | succ n =>
     have : Nat.blt d (n + 1) = Nat.ble d n := by
      rw [Bool.eq_iff_iff]; simp [Nat.blt_eq, Nat.ble_eq, Nat.lt_succ_iff]
     simp only [this]
def Fr.eval (fr : Fr) : Operand → AV
 | .tmp t => fr.get t
 | .const v => ofVal v
 | .global _ => .bad
 | .func f => .func (.func f) [] []
inductive K where
 | bool | int (k : IntKind) | string
 | ptr (e : TypeId) | slice (e : TypeId) | arr (n : Nat) (e : TypeId) | map (k e : TypeId)
 | strct (fs : List (TypeId × Nat × Bool))
 | func | iface (nometh : Bool) | tuple | other
def mkK : TypeDesc → K
 | .bool => .bool
 | .int k => .int k
 | .string => .string
 | .pointer e => .ptr e
 | .slice e => .slice e
 | .array n e => .arr n e
 | .map k e => .map k e
 | .struct fs => .strct (fs.toList.map fun f => (f.type, f.offset, decide (f.name = "_")))
 | .func _ _ _ => .func
 | .interface ms => .iface ms.isEmpty
 | .tuple _ => .tuple
 | _ => .other
def K.isAgg : K → Bool
 | .strct _ => true
 | .arr _ _ => true
 | _ => false
structure TI where
 k : K
 size : Nat
 bytes : Nat
 zero : List AV
 eqok : Bool
def zeroOk (k : K) (size : Nat) : Value → Bool
 | .agg cs => k.isAgg && Nat.beq cs.size size
 | _ => !k.isAgg && Nat.beq 1 size
def mkTI (P : Program) (t : TypeId) : Option TI :=
 match P.info? t, P.underlying t with
 | some i, some d =>
   match i.zero with
   | some z => cond (zeroOk (mkK d) i.size z) (some { k := mkK d, size := i.size, bytes := i.bytes, zero := ofArr z.cells, eqok := (mkK d).isAgg && !P.stoodInHeld t && !P.eqGuardType P.depth t }) none
   | none => none
 | _, _ => none
inductive Ex where
 | normal
 | exit (id : Nat)
 | goto (l : Nat)
 | ret
inductive T (α : Type) where
 | ret (a : α)
 | fail
 | ask (b : Bool) (t f : T α)
def T.run {α : Type} : T α → Option α
 | .ret a => some a
 | .fail => none
 | .ask b t f => cond b t.run f.run
structure Intr where
 run : List AV → St → T (AV × St)
structure LI where
 code : Code
 run : Fr → St → T (Ex × Fr × St)
structure Env where
 lp : Nat → Option LI
 tyd : TypeId → Bool
 bits : BinOp → IntKind → Int → Int → Int
 ty : Tr TI
 fn : Tr Func
 intr : FuncId → Option Intr
def cut {α : Type} (vs : List α) (off n : Nat) : Option (List α) :=
 let r := (vs.drop off).take n
 cond (Nat.beq r.length n) (some r) none
def wr {α : Type} : List α → Nat → List α → Option (List α)
 | vs, _, [] => some vs
 | [], _, _ :: _ => none
 | _ :: vs, 0, y :: ys => match wr vs 0 ys with
   | some r => some (y :: r)
   | none => none
 | x :: vs, off + 1, y :: ys => match wr vs off (y :: ys) with
   | some r => some (x :: r)
   | none => none
def rep {α : Type} : Nat → List α → List α
 | 0, _ => []
 | n + 1, l => l ++ rep n l
section
variable (E : Env)
def apart (t : TypeId) (cs : List AV) (off : Nat) : Option AV :=
 match E.ty.get t with
 | none => none
 | some ti => cond ti.k.isAgg (match cut cs off ti.size with | some r => some (.agg r) | none => none) (cs[off]?)
def aeqF (rec : TypeId → AV → AV → Option Bool) (xs ys : List AV) : List (TypeId × Nat × Bool) → Option Bool
 | [] => some true
 | (t, off, blank) :: fs => cond blank (aeqF rec xs ys fs)
     (match apart E t xs off, apart E t ys off with
      | some x, some y => match rec t x y with
        | some true => aeqF rec xs ys fs
        | r => r
      | _, _ => none)
def aeqA (rec : TypeId → AV → AV → Option Bool) (xs ys : List AV) (e : TypeId) (sz : Nat) : Nat → Nat → Option Bool
 | 0, _ => some true
 | n + 1, i => match apart E e xs (i * sz), apart E e ys (i * sz) with
   | some x, some y => match rec e x y with
     | some true => aeqA rec xs ys e sz n (i + 1)
     | r => r
   | _, _ => none
def aeq : Nat → TypeId → AV → AV → Option Bool
 | 0, _, _, _ => none
 | d + 1, t, x, y =>
   match E.ty.get t with
   | none => none
   | some ti =>
     match ti.k, x, y with
     | .bool, .bool a, .bool b => some (a == b)
     | .int _, .int k a, .int l b => cond (decide (k = l)) (some (a == b)) none
     | .string, .str a, .str b => some (a == b)
     | .ptr _, .nilPtr, .nilPtr => some true
     | .ptr _, .nilPtr, .ptr _ _ => some false
     | .ptr _, .ptr _ _, .nilPtr => some false
     | .ptr e, .ptr a b, .ptr c f => match E.ty.get e with
       | some te => cond (Nat.beq te.size 0) none (cond (Nat.beq a c) (some (Nat.beq b f)) none)
       | none => none
     | .slice _, .nilSlice, .nilSlice => some true
     | .slice _, .nilSlice, .slice _ _ _ _ _ _ => some false
     | .slice _, .slice _ _ _ _ _ _, .nilSlice => some false
     | .map _ _, .nilMap, .nilMap => some true
     | .map _ _, .nilMap, .map _ => some false
     | .map _ _, .map _, .nilMap => some false
     | .func, .nilFunc, .nilFunc => some true
     | .func, .nilFunc, .func _ _ _ => some false
     | .func, .func _ _ _, .nilFunc => some false
     | .iface _, .nilIface, .iface _ _ => some false
     | .iface _, .iface _ _, .nilIface => some false
     | .strct fs, .agg xs, .agg ys => cond ti.eqok (aeqF E (aeq d) xs ys fs) none
     | .arr n e, .agg xs, .agg ys => cond ti.eqok (match E.ty.get e with
       | some te => aeqA E (aeq d) xs ys e te.size n 0
       | none => none) none
     | _, _, _ => none
def isConst : Operand → Bool
 | .const _ => true
 | _ => false
def bless : List Nat → List Nat → Bool
 | _, [] => false
 | [], _ :: _ => true
 | a :: x, b :: y => Nat.blt a b || (Nat.beq a b && bless x y)
def bits2 (op : BinOp) (k : IntKind) (x y : Int) : Option Int :=
 let a := BitVec.ofInt k.bits x
 let b := BitVec.ofInt k.bits y
 match op with
 | .and => some (k.wrap (a &&& b).toNat)
 | .or => some (k.wrap (a ||| b).toNat)
 | .xor => some (k.wrap (a ^^^ b).toNat)
 | .andNot => some (k.wrap (a &&& ~~~b).toNat)
 | _ => none
def bitsR (op : BinOp) (k : IntKind) (x y : Int) : Int := match bits2 op k x y with
 | some r => r
 | none => 0
def abin (op : BinOp) (t : TypeId) (x y : AV) : Option AV :=
 match x, y with
 | .int k a, .int l b =>
   match op with
   | .shl => cond (decide (b < 0)) none (some (.int k (k.wrap (a * 2 ^ (min b.toNat k.bits)))))
   | .shr => cond (decide (b < 0)) none (some (.int k (a.fdiv (2 ^ (min b.toNat k.bits)))))
   | _ => cond (decide (k = l)) (match op with
     | .add => some (.int k (k.wrap (a + b)))
     | .sub => some (.int k (k.wrap (a - b)))
     | .mul => some (.int k (k.wrap (a * b)))
     | .quo => cond (decide (b = 0)) none (some (.int k (k.wrap (a.tdiv b))))
     | .rem => cond (decide (b = 0)) none (some (.int k (a.tmod b)))
     | .eql => some (.bool (a == b))
     | .neq => some (.bool (a != b))
     | .lss => some (.bool (decide (a < b)))
     | .leq => some (.bool (decide (a ≤ b)))
     | .gtr => some (.bool (decide (a > b)))
     | .geq => some (.bool (decide (a ≥ b)))
     | .and => some (.int k (E.bits .and k a b))
     | .or => some (.int k (E.bits .or k a b))
     | .xor => some (.int k (E.bits .xor k a b))
     | .andNot => some (.int k (E.bits .andNot k a b))
     | _ => none) none
 | .str a, .str b =>
   match op with
   | .add => cond (Nat.ble (a.length + b.length) 140737488355328) (some (.str (a ++ b))) none
   | .eql => some (.bool (a == b))
   | .neq => some (.bool (!(a == b)))
   | .lss => some (.bool (bless a b))
   | .leq => some (.bool (bless a b || a == b))
   | .gtr => some (.bool (!(bless a b || a == b)))
   | .geq => some (.bool (!(bless a b)))
   | _ => none
 | x, y =>
   match op with
   | .eql => match aeq E 50 t x y with
     | some b => some (.bool b)
     | none => none
   | .neq => match aeq E 50 t x y with
     | some b => some (.bool (!b))
     | none => none
   | _ => none
def aun (op : UnOp) (x : AV) : Option AV :=
 match op, x with
 | .neg, .int k n => some (.int k (k.wrap (0 - n)))
 | .xor, .int k n => match bits2 .xor k (if k.signed then -1 else k.max) n with
   | some r => some (.int k r)
   | none => none
 | .not, .bool b => some (.bool (!b))
 | _, _ => none
def afill (place : Nat → Option (Nat × Nat)) (cells : List AV) : List (Nat × AV) → Option (List AV)
 | [] => some cells
 | (i, v) :: rest =>
   match place i with
   | none => none
   | some (off, size) =>
     cond (!v.isBad && (Nat.beq v.cells.length size && Nat.ble off cells.length)) (match wr cells off v.cells with
      | some cells' => afill place cells' rest
      | none => none) none
def fplaces : List (TypeId × Nat × Bool) → Option (List (Nat × Nat))
 | [] => some []
 | (t, off, _) :: fs => match E.ty.get t, fplaces fs with
   | some ti, some r => some ((off, ti.size) :: r)
   | _, _ => none
def aplaces (ti : TI) : Option (Nat → Option (Nat × Nat)) :=
 match ti.k with
 | .strct fs => match fplaces E fs with
   | some ps => some fun i => ps[i]?
   | none => none
 | .arr _ e => match E.ty.get e with
   | some te => some fun i => some (i * te.size, te.size)
   | none => none
 | _ => none
def abuild (t : TypeId) (parts : List (Nat × AV)) : Option AV :=
 match E.ty.get t with
 | none => none
 | some ti => match aplaces E ti with
   | none => none
   | some ps => match afill ps ti.zero parts with
     | some cs => some (.agg cs)
     | none => none
def aboundv (v : AV) (y : Nat) : Option Nat :=
 match v with
 | .int _ i => cond (decide (0 ≤ i) && decide (i ≤ (y : Int))) (some i.toNat) none
 | _ => none
def abound (v : Option AV) (dflt y : Nat) : Option Nat :=
 match v with
 | none => some dflt
 | some v => aboundv v y
def abounds (len cap : Nat) (lo hi mx : Option AV) : Option (Nat × Nat × Nat) :=
 match mx with
 | none => match abound hi len cap with
   | none => none
   | some h => match abound lo 0 h with
     | none => none
     | some l => some (l, h, cap)
 | some mv => match hi with
   | none => none
   | some hv => match aboundv mv cap with
     | none => none
     | some m => match aboundv hv m with
       | none => none
       | some h => match abound lo 0 h with
         | none => none
         | some l => some (l, h, m)
def acell (g : Nat → Option AObj) (id : Nat) : Option (List AV) :=
 match g id with
 | some (.cells vs _) => some vs
 | _ => none
def aslice (g : Nat → Option AObj) (t : TypeId) (x : AV) (lo hi mx : Option AV) : Option AV :=
 match E.ty.get t with
 | none => none
 | some ti =>
   match ti.k, x with
   | .string, .str s => match mx with
     | some _ => none
     | none => match abounds s.length s.length lo hi none with
       | some (l, h, _) => some (.str ((s.drop l).take (h - l)))
       | none => none
   | .slice e, .slice id off len cap es hid =>
     match E.ty.get e with
     | none => none
     | some te => cond (Nat.beq te.size es) (match abounds len cap lo hi mx with
       | some (l, h, m) => some (.slice id (off + l * es) (h - l) (m - l) es (match mx with | some _ => false | none => hid))
       | none => none) none
   | .slice e, .nilSlice => match E.ty.get e, abounds 0 0 lo hi mx with
     | some _, some _ => some .nilSlice
     | _, _ => none
   | .arr n e, .ptr id off =>
     match E.ty.get e with
     | none => none
     | some te => match abounds n n lo hi mx, acell g id with
       | some (l, h, m), some vs => cond (Nat.ble (off + n * te.size) vs.length) (some (.slice id (off + l * te.size) (h - l) (m - l) te.size false)) none
       | _, _ => none
   | _, _ => none
def afieldAddr (s : TypeId) (x : AV) (f : Nat) : Option AV :=
 match E.ty.get s, x with
 | some ti, .ptr id off => match ti.k with
   | .strct fs => match fs[f]? with
     | some (t, o, _) => match E.ty.get t with
       | some tf => cond (Nat.beq tf.size 0) none (some (.ptr id (off + o)))
       | none => none
     | none => none
   | _ => none
 | _, _ => none
def afield (s : TypeId) (x : AV) (f : Nat) : Option AV :=
 match E.ty.get s, x with
 | some ti, .agg cs => match ti.k with
   | .strct fs => match fs[f]? with
     | some (t, o, _) => apart E t cs o
     | none => none
   | _ => none
 | _, _ => none
def aindexAddr (t : TypeId) (x ix : AV) : Option AV :=
 match E.ty.get t, ix with
 | some ti, .int _ i =>
   match ti.k, x with
   | .arr n e, .ptr id off => match E.ty.get e with
     | some te => cond (decide (0 ≤ i) && decide (i < (n : Int))) (some (.ptr id (off + i.toNat * te.size))) none
     | none => none
   | .slice e, .slice id off len _ es _ => match E.ty.get e with
     | some te => cond (Nat.beq te.size es && decide (0 ≤ i) && decide (i < (len : Int))) (some (.ptr id (off + i.toNat * es))) none
     | none => none
   | _, _ => none
 | _, _ => none
def aindex (t : TypeId) (x ix : AV) : Option AV :=
 match E.ty.get t, ix with
 | some ti, .int _ i =>
   match ti.k, x with
   | .arr n e, .agg cs => match E.ty.get e with
     | some te => cond (decide (0 ≤ i) && decide (i < (n : Int))) (apart E e cs (i.toNat * te.size)) none
     | none => none
   | .string, .str s => cond (decide (0 ≤ i)) (match s[i.toNat]? with
     | some b => some (.int .u8 b)
     | none => none) none
   | _, _ => none
 | _, _ => none
def aminmax (mx : Bool) : AV → AV → Option AV
 | .int k a, .int _ b => some (.int k (cond mx (if b > a then b else a) (if b < a then b else a)))
 | _, _ => none
def afoldmm (mx : Bool) (x : AV) : List AV → Option AV
 | [] => some x
 | y :: ys => match aminmax mx x y with
   | some z => afoldmm mx z ys
   | none => none
def apure (ρ : Operand → AV) (op : Op) : Option AV :=
 match op with
 | .move x => some (ρ x)
 | .assign x => some (ρ x)
 | .pick c a b => match ρ c with
   | .bool t => some (cond t (ρ a) (ρ b))
   | _ => none
 | .build t parts => abuild E t (parts.toList.map fun p => (p.1, ρ p.2))
 | .nilCheck x => match ρ x with
   | .ptr a b => some (.ptr a b)
   | .func (.func f) x y => some (.func (.func f) x y)
   | _ => none
 | .binOp op t x y _ => abin E op t (ρ x) (ρ y)
 | .unOp op _ x => aun op (ρ x)
 | .makeFunc fn first captured => match fn with
   | .func f => some (.func (.func f) (first.toList.map ρ) (captured.toList.map ρ))
   | _ => none
 | .fieldAddr s x f => afieldAddr E s (ρ x) f
 | .field s x f => afield E s (ρ x) f
 | .indexAddr t x i => aindexAddr E t (ρ x) (ρ i)
 | .index t x i => aindex E t (ρ x) (ρ i)
 | .extract x i => match ρ x with
   | .tuple vs => vs[i]?
   | _ => none
 | _ => none
def aload (g : Nat → Option AObj) (t : TypeId) (x : AV) : Option AV :=
 match x, E.ty.get t with
 | .ptr id off, some ti => match acell g id with
   | some vs => cond ti.k.isAgg (match cut vs off ti.size with | some r => some (.agg r) | none => none) (vs[off]?)
   | none => none
 | _, _ => none
def afirst (g : Nat → Option AObj) (es n : Nat) : AV → Option (List AV)
 | .slice id off _ _ es' _ => cond (Nat.beq es es') (match acell g id with
   | some vs => cut vs off (n * es)
   | none => none) none
 | .nilSlice => some []
 | .str s => cond (Nat.beq es 1) (some ((s.take n).map fun (b : Nat) => .int .u8 (b : Int))) none
 | _ => none
def alenOf : AV → Option Nat
 | .slice _ _ len _ _ _ => some len
 | .nilSlice => some 0
 | .str s => some s.length
 | _ => none
def acap (t : TypeId) (x : AV) : Option AV :=
 match E.ty.get t with
 | none => none
 | some ti => match ti.k, x with
   | .slice _, .nilSlice => some (.int .i64 0)
   | .slice _, .slice _ _ _ cap _ false => some (.int .i64 cap)
   | _, _ => none
def alen (g : Nat → Option AObj) (t : TypeId) (x : AV) : Option AV :=
 match E.ty.get t with
 | none => none
 | some ti =>
   match ti.k, x with
   | .string, .str s => some (.int .i64 s.length)
   | .arr n _, _ => some (.int .i64 n)
   | .slice _, .slice _ _ n _ _ _ => some (.int .i64 n)
   | .slice _, .nilSlice => some (.int .i64 0)
   | .map _ _, .nilMap => some (.int .i64 0)
   | .map _ _, .map id => match g id with
     | some (.map es _) => some (.int .i64 es.length)
     | _ => none
   | _, _ => none
def bytesOfCells : List AV → Option (List Nat)
 | [] => some []
 | .int .u8 n :: r => match bytesOfCells r with
   | some l => cond (decide (0 ≤ n) && decide (n < 256)) (some (n.toNat :: l)) none
   | none => none
 | _ :: _ => none
def aconv (g : Nat → Option AObj) (src dst : TypeId) (x : AV) : Option AV :=
 match E.ty.get src, E.ty.get dst with
 | some ts, some td =>
   match td.k, x with
   | .int k, .int _ n => some (.int k (k.wrap n))
   | .string, .str s => match ts.k with
     | .string => some (.str s)
     | _ => none
   | .string, .nilSlice => match ts.k with
     | .slice e => match E.ty.get e with
       | some te => match te.k with
         | .int .u8 => some (.str [])
         | _ => none
       | none => none
     | _ => none
   | .string, .slice id off len cap es hid => match ts.k with
     | .slice e => match E.ty.get e with
       | some te => match te.k with
         | .int .u8 => cond (Nat.beq es 1) (match acell g id with
           | some vs => match cut vs off len with
             | some cs => match bytesOfCells cs with
               | some l => some (.str l)
               | none => none
             | none => none
           | none => none) none
         | _ => none
       | none => none
     | _ => none
   | _, _ => none
 | _, _ => none
def AV.flat : AV → Bool
 | .bool _ => true
 | .int _ _ => true
 | .str _ => true
 | _ => false
def K.flat : K → Bool
 | .bool => true
 | .int _ => true
 | .string => true
 | _ => false
def keyField (cs : List AV) (f : TypeId × Nat × Bool) : Bool :=
 (match E.ty.get f.1 with
  | some tf => tf.k.flat
  | none => false) && (match cs[f.2.1]? with
  | some x => x.flat
  | none => false)
def akeyOk (kt : TypeId) (k : AV) : Bool :=
 match E.ty.get kt with
 | none => false
 | some ti => cond ti.k.flat k.flat (match ti.k, k with
   | .strct fs, .agg cs => cs.all AV.flat && fs.all (keyField E cs)
   | _, _ => false)
def afind (kt : TypeId) (k : AV) : List (AV × AV × Nat) → Nat → Option (Option (Nat × AV))
 | [], _ => some none
 | (k', v, _) :: es, i => match aeq E 50 kt k k' with
   | some true => some (some (i, v))
   | some false => afind kt k es (i + 1)
   | none => none
def ofCells (agg : Bool) (cs : List AV) : Option AV :=
 cond agg (some (.agg cs)) (match cs with | [x] => some x | _ => none)
def alookup (g : Nat → Option AObj) (t : TypeId) (x k : AV) (ok : Bool) : Option AV :=
 match E.ty.get t with
 | none => none
 | some ti => match ti.k with
   | .map kt et => match E.ty.get et with
     | none => none
     | some te => cond (akeyOk E kt k) (
       match (match x with
        | .nilMap => some []
        | .map id => match g id with
          | some (.map es _) => some es
          | _ => none
        | _ => none) with
       | none => none
       | some es => match afind E kt k es 0 with
         | none => none
         | some r => match (match r with
           | some (_, v) => some (v, true)
           | none => match ofCells te.k.isAgg te.zero with
             | some z => some (z, false)
             | none => none) with
           | some (v, b) => some (cond ok (.tuple [v, .bool b]) v)
           | none => none) none
   | _ => none
def Sh.beq : Sh → Sh → Bool
 | .int k, .int l => decide (k = l)
 | .str, .str => true
 | .bool, .bool => true
 | _, _ => false
def shBeq : List Sh → List Sh → Bool
 | [], [] => true
 | s :: a, t :: b => s.beq t && shBeq a b
 | _, _ => false
def shOk : Sh → AV → Bool
 | .int k, .int l _ => decide (k = l)
 | .str, .str _ => true
 | .bool, .bool _ => true
 | _, _ => false
def shFit : List Sh → List AV → Bool
 | _, [] => true
 | s :: sh, v :: vs => shOk s v && shFit sh vs
 | [], _ :: _ => false
def rowsFit (sh : List Sh) : Nat → List AV → Bool
 | _, [] => true
 | p, v :: vs => (match sh[p]? with
   | some s => shOk s v
   | none => false) && rowsFit sh (cond (Nat.beq (Nat.succ p) sh.length) 0 (Nat.succ p)) vs
def getAt (cs : List AV) (k : Nat) : AV := match cs[k]? with
 | some v => v
 | none => .bad
def natAt (s : List Nat) (k : Nat) : Nat := match s[k]? with
 | some v => v
 | none => 0
def tfield (s : TypeId) (id i j es f : Nat) : Option (AV × List Bool) :=
 match afieldAddr E s (.ptr 0 0) f with
 | some (.ptr _ o) => some (.tptr id i (j + o) es, [])
 | _ => none
def tindexAddr (t : TypeId) (id off len es : Nat) (ix : AV) : Option (AV × List Bool) :=
 match E.ty.get t, ix with
 | some ti, .int _ n => match ti.k with
   | .slice e => match E.ty.get e with
     | some te => cond (Nat.beq te.size es) (some (.tptr id (off + n.toNat) 0 es, [decide (0 ≤ n), decide (n < (len : Int))])) none
     | none => none
   | _ => none
 | _, _ => none
def tload (g : Nat → Option AObj) (t : TypeId) (id i j es : Nat) : Option (AV × List Bool) :=
 match g id, E.ty.get t with
 | some (.tarr sh n f _), some ti => cond (Nat.beq es sh.length) (
   match (match ti.k.isAgg with
    | true => (match cut (trow (f i) sh 0) j ti.size with | some r => some (.agg r) | none => none)
    | false => (trow (f i) sh 0)[j]? : Option AV) with
   | some v => some (v, [Nat.blt i n])
   | none => none) none
 | _, _ => none
def tnat (v : Option AV) (d : Nat) : Option (Nat × List Bool) :=
 match v with
 | none => some (d, [])
 | some (.int _ n) => some (n.toNat, [decide (0 ≤ n)])
 | _ => none
def tslice (t : TypeId) (id off len cap es : Nat) (hid : Bool) (lo hi mx : Option AV) : Option (AV × List Bool) :=
 match E.ty.get t with
 | none => none
 | some ti => match ti.k with
   | .slice e => match E.ty.get e with
     | none => none
     | some te => cond (Nat.beq te.size es) (match tnat lo 0, tnat hi len with
       | some (l, o1), some (h, o2) => match mx with
         | none => some (.tsl id (off + l) (h - l) (cap - l) es hid, Nat.ble l h :: Nat.ble h cap :: (o1 ++ o2))
         | some mv => match hi, tnat (some mv) 0 with
           | some _, some (m, o3) => some (.tsl id (off + l) (h - l) (m - l) es false, Nat.ble l h :: Nat.ble h m :: Nat.ble m cap :: (o1 ++ (o2 ++ o3)))
           | _, _ => none
       | _, _ => none) none
   | _ => none
def tlen (t : TypeId) (len : Nat) : Option (AV × List Bool) :=
 match E.ty.get t with
 | none => none
 | some ti => match ti.k with
   | .slice _ => some (.int .i64 len, [])
   | _ => none
def tindex (t : TypeId) (s : List Nat) (ix : AV) : Option (AV × List Bool) :=
 match E.ty.get t, ix with
 | some ti, .int _ n => match ti.k with
   | .string => some (.int .u8 (natAt s n.toNat), [decide (0 ≤ n), Nat.blt n.toNat s.length])
   | _ => none
 | _, _ => none
def tpart (t : TypeId) (s : List Nat) (lo hi mx : Option AV) : Option (AV × List Bool) :=
 match E.ty.get t, mx with
 | some ti, none => match ti.k with
   | .string => match tnat lo 0, tnat hi s.length with
     | some (l, o1), some (h, o2) => some (.str ((s.drop l).take (h - l)), Nat.ble l h :: Nat.ble h s.length :: (o1 ++ o2))
     | _, _ => none
   | _ => none
 | _, _ => none
def tnil (op : BinOp) (t : TypeId) (x y : AV) : Option (AV × List Bool) :=
 match E.ty.get t with
 | some ti => match ti.k, x, y with
   | .slice _, .tsl _ _ _ _ _ _, .nilSlice => match op with
     | .eql => some (.bool false, [])
     | .neq => some (.bool true, [])
     | _ => none
   | .slice _, .nilSlice, .tsl _ _ _ _ _ _ => match op with
     | .eql => some (.bool false, [])
     | .neq => some (.bool true, [])
     | _ => none
   | .slice _, .osl nl _ _ _ _ _ _, .nilSlice => match op with
     | .eql => some (.bool nl, [])
     | .neq => some (.bool (!nl), [])
     | _ => none
   | _, _, _ => none
 | none => none
def byteAt (f : Nat → Nat → AV) (i : Nat) : Int := (f i 0).toI
def tconv (g : Nat → Option AObj) (src dst : TypeId) (id off len es : Nat) : Option (AV × List Bool) :=
 match E.ty.get src, E.ty.get dst with
 | some ts, some td => match ts.k, td.k with
   | .slice e, .string => match E.ty.get e with
     | some te => match te.k with
       | .int .u8 => match g id with
         | some (.tarr sh n f _) => cond (shBeq sh [.int .u8] && Nat.beq es 1) (some (.str ((List.range len).map fun i => (byteAt f (off + i)).toNat),
            [Nat.ble (off + len) n, (List.range len).all fun i => decide (0 ≤ byteAt f (off + i)) && decide (byteAt f (off + i) < 256)])) none
         | _ => none
       | _ => none
     | none => none
   | _, _ => none
 | _, _ => none
def u8s : List AV → Option (List Nat × List Bool)
 | [] => some ([], [])
 | .int .u8 n :: r => match u8s r with
   | some (l, o) => some (n.toNat :: l, (decide (0 ≤ n) && decide (n < 256)) :: o)
   | none => none
 | _ :: _ => none
def tconvC (g : Nat → Option AObj) (src dst : TypeId) (id off len es : Nat) : Option (AV × List Bool) :=
 match E.ty.get src, E.ty.get dst with
 | some ts, some td => match ts.k, td.k with
   | .slice e, .string => match E.ty.get e with
     | some te => match te.k with
       | .int .u8 => cond (Nat.beq es 1) (match acell g id with
         | some vs => match cut vs off len with
           | some cs => match u8s cs with
             | some (l, o) => some (.str l, o)
             | none => none
           | none => none
         | none => none) none
       | _ => none
     | none => none
   | _, _ => none
 | _, _ => none
def tcap (t : TypeId) (cap : Nat) (hid : Bool) : Option (AV × List Bool) :=
 match E.ty.get t with
 | none => none
 | some ti => match ti.k, hid with
   | .slice _, false => some (.int .i64 cap, [])
   | _, _ => none
def toSl (nl : Bool) (o : Option (AV × List Bool)) : Option (AV × List Bool) := match o with
 | some (.tsl id off len cap es hid, l) => some (.osl nl id off len cap es hid, l)
 | _ => none
def keyFit (ks : List Sh) (ka : Bool) (k : AV) : Bool := match ka with
 | true => (match k with | .agg cs => shFit ks cs && Nat.beq cs.length ks.length | _ => false)
 | false => (match ks with | [s] => shOk s k | _ => false)
def shOfK : K → Option Sh
 | .bool => some .bool
 | .int k => some (.int k)
 | .string => some .str
 | _ => none
def flatTy (t : TypeId) (s : Sh) : Bool := match E.ty.get t with
 | some ti => (match shOfK ti.k with | some s' => s'.beq s | none => false)
 | none => false
def rowF : Nat → List (TypeId × Nat × Bool) → List Sh → Bool
 | _, [], [] => true
 | i, (t, o, b) :: fs, s :: ks => flatTy E t s && Nat.beq o i && !b && rowF (Nat.succ i) fs ks
 | _, _, _ => false
def keyTy (kt : TypeId) (ks : List Sh) (ka : Bool) : Bool := match ka with
  | false => (match ks with | [s] => flatTy E kt s | _ => false)
  | true => (match E.ty.get kt with
    | some ti => (match ti.k with | .strct fs => ti.eqok && rowF E 0 fs ks | _ => false)
    | none => false)
def omapOk (kt et : TypeId) (ks vs : List Sh) (ka va : Bool) (z : List AV) (k : AV) : Bool := match E.ty.get et with
 | some te => akeyOk E kt k && keyFit ks ka k && keyTy E kt ks ka && AV.beqL te.zero z && (te.k.isAgg == va) && shFit vs z && Nat.beq z.length vs.length && (va || Nat.beq vs.length 1)
 | none => false
def tlookup (g : Nat → Option AObj) (t : TypeId) (id : Nat) (k : AV) (ok : Bool) : Option (AV × List Bool) :=
 match g id, E.ty.get t with
 | some (.omap ks vs ka va z has f _), some ti => match ti.k with
   | .map kt et => cond (omapOk E kt et ks vs ka va z k) (match ofCells va (trow (fun j => cond (has k) (f k j) (getAt z j)) vs 0) with
     | some v => some (cond ok (.tuple [v, .bool (has k)]) v, [])
     | none => none) none
   | _ => none
 | _, _ => none
def tread (ρ : Operand → AV) (g : Nat → Option AObj) (op : Op) : Option (AV × List Bool) :=
 match op with
 | .lookup t x i ok => match ρ x with
   | .map id => tlookup E g t id (ρ i) ok
   | _ => none
 | .index t x i => match ρ x with
   | .str s => tindex E t s (ρ i)
   | _ => none
 | .binOp op t x y _ => tnil E op t (ρ x) (ρ y)
 | .convert s d x => match ρ x with
   | .tsl id off len _ es _ => tconv E g s d id off len es
   | .osl _ id off len _ es _ => tconv E g s d id off len es
   | .slice id off len _ es _ => tconvC E g s d id off len es
   | _ => none
 | .load t a => match ρ a with
   | .tptr id i j es => tload E g t id i j es
   | _ => none
 | .fieldAddr s x f => match ρ x with
   | .tptr id i j es => tfield E s id i j es f
   | _ => none
 | .indexAddr t x i => match ρ x with
   | .tsl id off len _ es _ => tindexAddr E t id off len es (ρ i)
   | .osl _ id off len _ es _ => tindexAddr E t id off len es (ρ i)
   | _ => none
 | .slice t x lo hi mx => match ρ x with
   | .tsl id off len cap es hid => tslice E t id off len cap es hid (lo.map ρ) (hi.map ρ) (mx.map ρ)
   | .osl nl id off len cap es hid => toSl nl (tslice E t id off len cap es hid (lo.map ρ) (hi.map ρ) (mx.map ρ))
   | .str s => tpart E t s (lo.map ρ) (hi.map ρ) (mx.map ρ)
   | _ => none
 | .nilCheck x => match ρ x with
   | .tptr id i j es => some (.tptr id i j es, [])
   | _ => none
 | .call c => match c.callee, c.args.toList, c.argTypes.toList with
   | .builtin .len, [x], [t] => match ρ x with
     | .tsl _ _ len _ _ _ => tlen E t len
     | .osl _ _ _ len _ _ _ => tlen E t len
     | _ => none
   | .builtin .cap, [x], [t] => match ρ x with
     | .tsl _ _ _ cap _ hid => tcap E t cap hid
     | .osl _ _ _ _ cap _ hid => tcap E t cap hid
     | _ => none
   | _, _, _ => none
 | _ => none
def aread0 (ρ : Operand → AV) (g : Nat → Option AObj) (op : Op) : Option AV :=
 match op with
 | .load t a => aload E g t (ρ a)
 | .slice t x lo hi mx => aslice E g t (ρ x) (lo.map ρ) (hi.map ρ) (mx.map ρ)
 | .convert s d x => aconv E g s d (ρ x)
 | .lookup t x i ok => alookup E g t (ρ x) (ρ i) ok
 | .call c => match c.callee, c.args.toList, c.argTypes.toList with
   | .builtin .len, x :: _, t :: _ => alen E g t (ρ x)
   | .builtin .cap, x :: _, t :: _ => acap E t (ρ x)
   | .builtin .min, x :: xs, _ => afoldmm false (ρ x) (xs.map ρ)
   | .builtin .max, x :: xs, _ => afoldmm true (ρ x) (xs.map ρ)
   | _, _, _ => none
 | _ => apure E ρ op
def aread (ρ : Operand → AV) (g : Nat → Option AObj) (op : Op) : Option AV :=
 match tread E ρ g op with
 | some (v, obl) => cond (obl.all fun b => b) (some v) none
 | none => aread0 E ρ g op
def shOfs : List AV → Option (List Sh)
 | [] => some []
 | .int k _ :: vs => match shOfs vs with
   | some sh => some (.int k :: sh)
   | none => none
 | .str _ :: vs => match shOfs vs with
   | some sh => some (.str :: sh)
   | none => none
 | .bool _ :: vs => match shOfs vs with
   | some sh => some (.bool :: sh)
   | none => none
 | _ :: _ => none
def amakeLen : AV → Option Nat
 | .int _ n => cond (decide (0 ≤ n) && decide (n ≤ 281474976710656)) (some n.toNat) none
 | _ => none
def aalloc0 (ρ : Operand → AV) (op : Op) : Option (AObj × (Nat → AV)) :=
 match op with
 | .alloc e => match E.ty.get e with
   | some te => some (.cells te.zero true, fun id => .ptr id 0)
   | none => none
 | .box _ x => let v := ρ x
   cond (v.cells.all AV.one) (some (.cells v.cells true, fun id => .ptr id 0)) none
 | .buildSlice t len parts => match E.ty.get t with
   | none => none
   | some ti => match ti.k with
     | .slice e => match E.ty.get e with
       | none => none
       | some te => cond (Nat.ble (len * te.size) 16777216) (
         match afill (fun i => some (i * te.size, te.size)) (rep len te.zero) (parts.toList.map fun p => (p.1, ρ p.2)) with
         | some cs => cond (cs.all AV.one) (some (.cells cs true, fun id => .slice id 0 len len te.size false)) none
         | none => none) none
     | _ => none
 | .makeSlice t l c => match E.ty.get t with
   | none => none
   | some ti => match ti.k with
     | .slice e => match E.ty.get e with
       | none => none
       | some te => match amakeLen (ρ l), amakeLen (ρ c) with
         | some l, some c => cond (Nat.ble l c && Nat.ble (te.bytes * c) 281474976710656) (some (.cells (rep c te.zero) true, fun id => .slice id 0 l c te.size false)) none
         | _, _ => none
     | _ => none
 | .makeMap t r => match r with
   | none => some (.map [] 0, fun id => .map id)
   | some x => match E.ty.get t, ρ x with
     | some ti, .int _ _ => match ti.k with
       | .map _ _ => some (.map [] 0, fun id => .map id)
       | _ => none
     | _, _ => none
 | .convert s d x => match E.ty.get s, E.ty.get d, ρ x with
   | some ts, some td, .str l => match ts.k, td.k with
     | .string, .slice e => match E.ty.get e with
       | some te => match te.k with
         | .int .u8 => cond (Nat.ble l.length 281474976710656) (some (.cells (l.map fun (b : Nat) => .int .u8 (b : Int)) true, fun id => .slice id 0 l.length l.length 1 true)) none
         | _ => none
       | none => none
     | _, _ => none
   | _, _, _ => none
 | _ => none
def talloc (ρ : Operand → AV) (op : Op) : Option (AObj × (Nat → AV) × List Bool) :=
 match op with
 | .makeSlice t l c => match E.ty.get t with
   | none => none
   | some ti => match ti.k with
     | .slice e => cond (E.tyd e) (match E.ty.get e, ρ l, ρ c with
       | some te, .int _ nl, .int _ nc => match shOfs te.zero with
         | some sh => some (.tarr sh nc.toNat (fun _ j => getAt te.zero j) true, (fun id => .tsl id 0 nl.toNat nc.toNat te.size false),
            [decide (0 ≤ nl), decide (nl ≤ nc), decide (nc ≤ 281474976710656), Nat.ble (te.bytes * nc.toNat) 281474976710656])
         | none => none
       | _, _, _ => none) none
     | _ => none
 | .convert s d x => match E.ty.get s, E.ty.get d, ρ x with
   | some ts, some td, .str l => match ts.k, td.k with
     | .string, .slice e => cond (E.tyd e) (match E.ty.get e with
       | some te => match te.k with
         | .int .u8 => some (.tarr [.int .u8] l.length (fun i _ => .int .u8 (natAt l i)) true, (fun id => .tsl id 0 l.length l.length 1 true), [Nat.ble l.length 281474976710656])
         | _ => none
       | none => none) none
     | _, _ => none
   | _, _, _ => none
 | _ => none
def aalloc (ρ : Operand → AV) (op : Op) : Option (AObj × (Nat → AV)) :=
 match talloc E ρ op with
 | some (o, f, obl) => cond (obl.all fun b => b) (some (o, f)) none
 | none => aalloc0 E ρ op
inductive Cls where
 | read | alloc | eff
def acls (op : Op) : Cls :=
 match op with
 | .alloc _ => .alloc
 | .box _ _ => .alloc
 | .buildSlice _ _ _ => .alloc
 | .makeSlice _ _ _ => .alloc
 | .makeMap _ _ => .alloc
 | .convert _ d _ => match E.ty.get d with
   | some td => match td.k with
     | .slice _ => .alloc
     | _ => .read
   | none => .read
 | .store _ _ _ => .eff
 | .mapUpdate _ _ _ _ => .eff
 | .insert _ _ _ _ => .eff
 | .mapEntry _ _ _ => .eff
 | .entryStore _ _ _ _ => .eff
 | .range _ _ => .eff
 | .next _ _ => .eff
 | .entry _ => .eff
 | .call c => match c.callee with
   | .builtin .len => .read
   | .builtin .cap => .read
   | .builtin .min => .read
   | .builtin .max => .read
   | _ => .eff
 | _ => .read
def St.put (σ : St) (id : Nat) (o : AObj) : St := { σ with heap := σ.heap.set id (some o) }
def St.kill (σ : St) (id : Nat) : St := { σ with heap := σ.heap.set id none }
def St.new (σ : St) (o : AObj) : St := { heap := σ.heap.set σ.next (some o), next := σ.next + 1 }
def St.get (σ : St) (id : Nat) : Option AObj := σ.heap.get id
def awrite (σ : St) (id off : Nat) (news : List AV) : Option St :=
 match news with
 | [] => some σ
 | _ => match σ.get id with
   | some (.cells vs true) => cond (news.all AV.one) (match wr vs off news with
     | some vs' => some (σ.put id (.cells vs' true))
     | none => none) none
   | _ => none
def astore (σ : St) (t : TypeId) (a x : AV) : Option St :=
 match a, E.ty.get t with
 | .ptr id off, some ti => cond (!x.isBad && Nat.beq x.cells.length ti.size) (awrite σ id off x.cells) none
 | _, _ => none
def setNth {α : Type} : List α → Nat → α → List α
 | [], _, _ => []
 | _ :: xs, 0, y => y :: xs
 | x :: xs, n + 1, y => x :: setNth xs n y
def delNth {α : Type} : List α → Nat → List α
 | [], _ => []
 | _ :: xs, 0 => xs
 | x :: xs, n + 1 => x :: delNth xs n
def amapUpdate (σ : St) (t : TypeId) (m k v : AV) : Option St :=
 match E.ty.get t, m with
 | some ti, .map id => match ti.k, σ.get id with
   | .map kt _, some (.map es clock) => cond (akeyOk E kt k) (match afind E kt k es 0 with
     | none => none
     | some none => some (σ.put id (.map (es ++ [(k, v, clock)]) (clock + 1)))
     | some (some (i, _)) => match es[i]? with
       | some (k', _, b) => cond (AV.beq k' k) (some (σ.put id (.map (setNth es i (k, v, b)) clock))) none
       | none => none) none
   | _, _ => none
 | _, _ => none
def amapEntry (σ : St) (t : TypeId) (m k : AV) : Option (AV × St) :=
 match E.ty.get t, m with
 | some ti, .map id => match ti.k, σ.get id with
   | .map kt et, some (.map es clock) => cond (akeyOk E kt k) (match afind E kt k es 0 with
     | none => none
     | some none => match E.ty.get et with
       | some te => match ofCells te.k.isAgg te.zero with
         | some z => some (.tuple [z, .int .i64 clock], σ.put id (.map (es ++ [(k, z, clock)]) (clock + 1)))
         | none => none
       | none => none
     | some (some (i, v)) => match es[i]? with
       | some (k', _, b) => cond (AV.beq k' k) (some (.tuple [v, .int .i64 b], σ.put id (.map (setNth es i (k, v, b)) clock))) none
       | none => none) none
   | _, _ => none
 | _, _ => none
def findBorn : List (AV × AV × Nat) → Int → Nat → Option (Nat × AV × Nat)
 | [], _, _ => none
 | (k, _, b) :: es, s, i => cond (decide ((b : Int) = s)) (some (i, k, b)) (findBorn es s (i + 1))
def aentryStore (σ : St) (m s v : AV) : Option St :=
 match m, s with
 | .map id, .int _ n => match σ.get id with
   | some (.map es clock) => match findBorn es n 0 with
     | some (i, k, b) => some (σ.put id (.map (setNth es i (k, v, b)) clock))
     | none => none
   | _ => none
 | _, _ => none
def adelete (σ : St) (t : TypeId) (m k : AV) : Option St :=
 match E.ty.get t with
 | none => none
 | some ti => match ti.k with
   | .map kt _ => cond (akeyOk E kt k) (match m with
     | .nilMap => some σ
     | .map id => match σ.get id with
       | some (.map es clock) => match afind E kt k es 0 with
         | none => none
         | some none => some σ
         | some (some (i, _)) => some (σ.put id (.map (delNth es i) clock))
       | _ => none
     | _ => none) none
   | _ => none
def aclear (σ : St) (t : TypeId) (x : AV) : Option St :=
 match E.ty.get t with
 | none => none
 | some ti =>
   match x with
   | .nilMap => some σ
   | .nilSlice => some σ
   | .map id => match σ.get id with
     | some (.map _ clock) => some (σ.put id (.map [] clock))
     | _ => none
   | .slice id off len cap es hid => match ti.k with
     | .slice e => match E.ty.get e with
       | some te => cond (Nat.beq te.size es) (match len with
         | 0 => some σ
         | _ => awrite σ id off (rep len te.zero)) none
       | none => none
     | _ => none
   | _ => none
def acopy (σ : St) (t : TypeId) (d s : AV) : Option (AV × St) :=
 match E.ty.get t with
 | none => none
 | some ti => match ti.k with
   | .slice e => match E.ty.get e with
     | none => none
     | some te => match alenOf s with
       | none => none
       | some n => match d with
         | .nilSlice => some (.int .i64 0, σ)
         | .slice id off len cap es hid => cond (Nat.beq te.size es) (
           match afirst σ.get es (Nat.min n len) s with
           | some cs => match awrite σ id off cs with
             | some σ' => some (.int .i64 (Nat.min n len), σ')
             | none => none
           | none => none) none
         | _ => none
   | _ => none
def aappN (te : TI) (tx : TI) (x : AV) : Option Nat :=
 match tx.k with
 | .int _ => match x with
   | .int _ n => cond (decide (0 ≤ n) && decide (n ≤ 281474976710656) && Nat.ble (n.toNat * te.bytes) 281474976710656) (some n.toNat) none
   | _ => none
 | _ => alenOf x
def aappNew (g : Nat → Option AObj) (te : TI) (tx : TI) (n : Nat) (x : AV) : Option (List AV) :=
 match tx.k with
 | .int _ => cond (te.zero.all AV.one) (some (rep n te.zero)) none
 | _ => afirst g te.size n x
def growB (bytes need : Nat) : Bool := Nat.ble need 281474976710656 && Nat.ble (need * bytes) 17179869184
def growOk (te : TI) (need : Nat) : Bool := growB te.bytes need
def aappend (σ : St) (t xt : TypeId) (s x : AV) : Option (AV × St) :=
 match E.ty.get t, E.ty.get xt with
 | some ti, some tx => match ti.k with
   | .slice e => match E.ty.get e with
     | none => none
     | some te => match aappN te tx x with
       | none => none
       | some n => match aappNew σ.get te tx n x with
         | none => none
         | some new => match s with
           | .nilSlice => match n with
             | 0 => some (.nilSlice, σ)
             | _ => cond (growOk te n) (some (.slice σ.next 0 n n te.size true, σ.new (.cells new true))) none
           | .slice id off len cap es hid =>
             cond (Nat.beq te.size es) (
             cond (Nat.ble (len + n) cap)
              (match awrite σ id (off + len * es) new with
               | some σ' => some (.slice id off (len + n) cap es hid, σ')
               | none => none)
              (cond (growOk te (len + n))
                (match σ.get id with
                 | some (.cells vs rw) => match cut vs off (len * es) with
                   | none => none
                   | some old => cond hid
                      (cond (rw && new.all AV.one) (some (.slice σ.next 0 (len + n) (len + n) es true, (σ.kill id).new (.cells (old ++ new) true))) none)
                      (some (.slice σ.next 0 (len + n) (len + n) es true, σ.new (.cells (old ++ new) true)))
                 | _ => none) none)) none
           | _ => none
   | _ => none
 | _, _ => none
def arange (σ : St) (t : TypeId) (x : AV) : Option (AV × St) :=
 match E.ty.get t with
 | some ti => match ti.k, x with
   | .map _ _, .nilMap => some (.ptr σ.next 0, σ.new (.miter none 0 [] 0))
   | .map _ _, .map id => match σ.get id with
     | some (.map _ clock) => some (.ptr σ.next 0, σ.new (.miter (some id) clock [] clock))
     | _ => none
   | _, _ => none
 | none => none
def anext (σ : St) (it : AV) (isStr : Bool) : Option (AV × St) :=
 match it, isStr with
 | .ptr id 0, false => match σ.get id with
   | some (.miter none _ _ _) => some (.tuple [.bool false], σ)
   | some (.miter (some m) since seen last) => match σ.get m with
     | some (.map es clock) =>
       cond (!seen.isEmpty && !es.isEmpty && es.all (fun e => Nat.ble last e.2.2)) none (
       match es.filter (fun e => !seen.contains e.2.2) with
       | [] => some (.tuple [.bool false], σ)
       | [(k, v, b)] => cond (Nat.blt b since) (some (.tuple [.bool true, k, v], σ.put id (.miter (some m) since (seen ++ [b]) clock))) none
       | _ => none)
     | _ => none
   | _ => none
 | _, _ => none
def aentry (σ : St) (it : AV) : Option (AV × St) :=
 match it with
 | .ptr id 0 => match σ.get id with
   | some (.miter (some m) _ seen stepped) => match seen.getLast?, σ.get m with
     | some stamp, some (.map es clock) => cond (Nat.beq clock stepped) (match es.find? (fun e => Nat.beq e.2.2 stamp) with
       | some e => some (.tuple [e.1, e.2.1], σ)
       | none => none) none
     | _, _ => none
   | _ => none
 | _ => none
def aeff0 (v1 v2 : AV) (ρ : Operand → AV) (σ : St) (op : Op) : Option (AV × St) :=
 match op with
 | .store t a x => match astore E σ t (ρ a) (ρ x) with
   | some σ' => some (.undef, σ')
   | none => none
 | .mapUpdate t m k v => match amapUpdate E σ t (ρ m) (ρ k) (ρ v) with
   | some σ' => some (.undef, σ')
   | none => none
 | .insert t m k v => match amapUpdate E σ t (ρ m) (ρ k) (ρ v) with
   | some σ' => some (.undef, σ')
   | none => none
 | .mapEntry t m k => amapEntry E σ t (ρ m) (ρ k)
 | .entryStore _ m s v => match aentryStore σ (ρ m) (ρ s) (ρ v) with
   | some σ' => some (.undef, σ')
   | none => none
 | .range t x => arange E σ t (ρ x)
 | .next it b => anext σ (ρ it) b
 | .entry it => aentry σ (ρ it)
 | .call c => match c.callee, c.args.toList, c.argTypes.toList with
   | .builtin .append, [_, _], [t, xt] => aappend E σ t xt v1 v2
   | .builtin .copy, _ :: _ :: _, t :: _ => acopy E σ t v1 v2
   | .builtin .delete, _ :: _ :: _, t :: _ => match adelete E σ t v1 v2 with
     | some σ' => some (.undef, σ')
     | none => none
   | .builtin .clear, _ :: _, t :: _ => match aclear E σ t v1 with
     | some σ' => some (.undef, σ')
     | none => none
   | _, _, _ => none
 | _ => none
def rowsOf (es : Nat) (cs : List AV) : Nat → Nat → Nat → AV
 | 1, _, j => getAt cs j
 | _, i, j => getAt cs (i * es + j)
def tsrc (g : Nat → Option AObj) (sh : List Sh) : AV → Option (Nat × (Nat → Nat → AV) × List Bool)
 | .tsl id off len _ es _ => match g id with
   | some (.tarr sh' n f _) => cond (shBeq sh sh' && Nat.beq es sh.length) (some (len, (fun i j => f (off + i) j), [Nat.ble (off + len) n])) none
   | _ => none
 | .slice id off len _ es _ => cond (Nat.beq es sh.length) (match acell g id with
   | some vs => match cut vs off (len * es) with
     | some cs => cond (rowsFit sh 0 cs) (some (len, rowsOf es cs len, [])) none
     | none => none
   | none => none) none
 | .nilSlice => some (0, (fun _ _ => .bad), [])
 | .str s => cond (shBeq sh [.int .u8]) (some (s.length, (fun i _ => .int .u8 (natAt s i)), [])) none
 | _ => none
def fput (f : Nat → Nat → AV) (i j : Nat) (vs : List AV) (a b : Nat) : AV :=
 cond (Nat.ble j b && Nat.blt b (j + vs.length)) (cond (Nat.beq a i) (getAt vs (b - j)) (f a b)) (f a b)
def fover (f : Nat → Nat → AV) (off m : Nat) (fs : Nat → Nat → AV) (a b : Nat) : AV :=
 cond (Nat.ble off a && Nat.blt a (off + m)) (fs (a - off) b) (f a b)
def fjoin (f : Nat → Nat → AV) (len : Nat) (fs : Nat → Nat → AV) (a b : Nat) : AV :=
 cond (Nat.blt a len) (f a b) (fs (a - len) b)
def tstore (σ : St) (t : TypeId) (id i j es : Nat) (x : AV) : Option (AV × St × List Bool) :=
 match σ.get id, E.ty.get t with
 | some (.tarr sh n f true), some ti => cond (Nat.beq es sh.length && Nat.beq x.cells.length ti.size && shFit (sh.drop j) x.cells && !x.isBad)
    (some (.undef, σ.put id (.tarr sh n (fput f i j x.cells) true), [Nat.blt i n])) none
 | _, _ => none
def tlenOf : AV → Option Nat
 | .slice _ _ len _ _ _ => some len
 | .tsl _ _ len _ _ _ => some len
 | .nilSlice => some 0
 | .str s => some s.length
 | _ => none
def troom (s x : AV) : Bool :=
 match s with
 | .tsl _ _ len cap _ _ => match tlenOf x with
   | some m => Nat.ble (len + m) cap
   | none => true
 | .nilSlice => match x with
   | .tsl _ _ m _ _ _ => Nat.beq m 0
   | .str l => Nat.beq l.length 0
   | _ => true
 | .slice _ _ len cap _ _ => match x with
   | .tsl _ _ m _ _ _ => Nat.ble (len + m) cap
   | .str l => Nat.ble (len + l.length) cap
   | _ => true
 | _ => true
def isApp (op : Op) : Bool :=
 match op with
 | .call c => match c.callee with
   | .builtin .append => true
   | _ => false
 | _ => false
def tdec (v1 v2 : AV) (op : Op) : Bool := cond (isApp op) (troom v1 v2) true
def tgrow (σ : St) (te : TI) (id len m es : Nat) (hid rw : Bool) (sh : List Sh) (f fs : Nat → Nat → AV) (obl : List Bool) : Option (AV × St × List Bool) :=
 cond (hid && !rw) none (some (.tsl σ.next 0 (len + m) (len + m) es true, (cond hid (σ.kill id) σ).new (.tarr sh (len + m) (fjoin f len fs) true), growB te.bytes (len + m) :: obl))
def tshape (g : Nat → Option AObj) (e : TypeId) : AV → Option (Nat × List Sh)
 | .tsl id _ _ _ es _ => match g id with
   | some (.tarr sh _ _ _) => some (es, sh)
   | _ => none
 | .str _ => cond (E.tyd e) (some (1, [.int .u8])) none
 | _ => none
def tappend (b : Bool) (σ : St) (t xt : TypeId) (s x : AV) : Option (AV × St × List Bool) :=
 match E.ty.get t, E.ty.get xt with
 | some ti, some tx => match ti.k, tx.k with
   | _, .int _ => none
   | .slice e, _ => match E.ty.get e with
     | none => none
     | some te => match s with
       | .tsl id off len cap es hid => match σ.get id with
         | some (.tarr sh n f rw) => cond (Nat.beq te.size es && Nat.beq es sh.length) (match tsrc σ.get sh x with
           | some (m, fs, o) => cond b
              (cond rw (some (.tsl id off (len + m) cap es hid, σ.put id (.tarr sh n (fover f (off + len) m fs) true), Nat.ble (off + (len + m)) n :: o)) none)
              (tgrow σ te id len m es hid rw sh (fun i j => f (off + i) j) fs (Nat.ble (off + len) n :: o))
           | none => none) none
         | _ => none
       | .nilSlice => match tshape E σ.get e x with
         | some (es, sh) => cond (Nat.beq te.size es && Nat.beq es sh.length) (match tsrc σ.get sh x with
           | some (m, fs, o) => cond b (some (.nilSlice, σ, o)) (tgrow σ te 0 0 m es false true sh (fun _ _ => .bad) fs o)
           | none => none) none
         | none => none
       | .slice id off len cap es hid => match tshape E σ.get e x with
         | some (es', sh) => cond (Nat.beq te.size es && Nat.beq es sh.length) (match tsrc σ.get sh s, tsrc σ.get sh x with
           | some (_, f, o1), some (m, fs, o) => cond b (cond (Nat.beq len cap) (some (.slice id off len cap es hid, σ, o)) none)
              (match σ.get id with
               | some (.cells _ rw) => tgrow σ te id len m es hid rw sh f fs (o1 ++ o)
               | _ => none)
           | _, _ => none) none
         | none => none
       | _ => none
   | _, _ => none
 | _, _ => none
def tclear (σ : St) (t : TypeId) (x : AV) : Option (AV × St × List Bool) :=
 match x, E.ty.get t with
 | .tsl id off len _ es _, some ti => match ti.k, σ.get id with
   | .slice e, some (.tarr sh n f true) => match E.ty.get e with
     | some te => cond (Nat.beq te.size es && Nat.beq es sh.length && shFit sh te.zero)
        (some (.undef, σ.put id (.tarr sh n (fover f off len (fun _ j => getAt te.zero j)) true), [Nat.ble (off + len) n])) none
     | none => none
   | _, _ => none
 | _, _ => none
def tcopy (σ : St) (t : TypeId) (d s : AV) : Option (AV × St × List Bool) :=
 match d, E.ty.get t with
 | .tsl id off len _ es _, some ti => match ti.k, σ.get id with
   | .slice e, some (.tarr sh n f true) => match E.ty.get e with
     | some te => cond (Nat.beq te.size es && Nat.beq es sh.length) (match tsrc σ.get sh s with
       | some (m, fs, o) => some (.int .i64 (Nat.min m len), σ.put id (.tarr sh n (fover f off (Nat.min m len) fs) true), Nat.ble (off + len) n :: o)
       | none => none) none
     | none => none
   | _, _ => none
 | _, _ => none
def dnb (c : Bool) (v : AV) : AV := match v with
 | .osl _ id off len cap es hid => match c with
   | true => .nilSlice
   | false => .tsl id off len cap es hid
 | v => v
def nlOf (v : AV) : Bool := match v with
 | .osl nl _ _ _ _ _ _ => nl
 | _ => false
def isOsl (v : AV) : Bool := match v with
 | .osl _ _ _ _ _ _ _ => true
 | _ => false
def opA (ρ : Operand → AV) (op : Op) : AV := match op with
 | .call c => match c.callee, c.args.toList with
   | .builtin _, x :: _ => ρ x
   | _, _ => .bad
 | _ => .bad
def opB (ρ : Operand → AV) (op : Op) : AV := match op with
 | .call c => match c.callee, c.args.toList with
   | .builtin _, _ :: y :: _ => ρ y
   | _, _ => .bad
 | _ => .bad
def tmapUpdate (σ : St) (t : TypeId) (id : Nat) (k v : AV) : Option (AV × St × List Bool) :=
 match σ.get id, E.ty.get t with
 | some (.omap ks vs ka va z has f true), some ti => match ti.k with
   | .map kt et => cond (omapOk E kt et ks vs ka va z k && shFit vs v.cells && Nat.beq v.cells.length vs.length && (match v with | .agg _ => va | .bad => false | _ => !va))
      (some (.undef, σ.put id (.omap ks vs ka va z (fun x => cond (AV.beq x k) true (has x)) (fun x j => cond (AV.beq x k) (getAt v.cells j) (f x j)) true), [])) none
   | _ => none
 | _, _ => none
def tdelete (σ : St) (t : TypeId) (id : Nat) (k : AV) : Option (AV × St × List Bool) :=
 match σ.get id, E.ty.get t with
 | some (.omap ks vs ka va z has f true), some ti => match ti.k with
   | .map kt et => cond (omapOk E kt et ks vs ka va z k) (some (.undef, σ.put id (.omap ks vs ka va z (fun x => cond (AV.beq x k) false (has x)) f true), [])) none
   | _ => none
 | _, _ => none
def teff (b : Bool) (v1 v2 : AV) (ρ : Operand → AV) (σ : St) (op : Op) : Option (AV × St × List Bool) :=
 match op with
 | .store t a x => match ρ a with
   | .tptr id i j es => tstore E σ t id i j es (ρ x)
   | _ => none
 | .mapUpdate t m k v => match ρ m with
   | .map id => tmapUpdate E σ t id (ρ k) (ρ v)
   | _ => none
 | .insert t m k v => match ρ m with
   | .map id => tmapUpdate E σ t id (ρ k) (ρ v)
   | _ => none
 | .call c => match c.callee, c.args.toList, c.argTypes.toList with
   | .builtin .append, [_, _], [t, xt] => tappend E b σ t xt v1 v2
   | .builtin .copy, _ :: _ :: _, t :: _ => tcopy E σ t v1 v2
   | .builtin .clear, _ :: _, t :: _ => tclear E σ t v1
   | .builtin .delete, _ :: _ :: _, t :: _ => match v1 with
     | .map id => tdelete E σ t id v2
     | _ => none
   | _, _, _ => none
 | _ => none
def beff (v1 v2 : AV) (ρ : Operand → AV) (σ : St) (op : Op) : Option (AV × St) :=
 match teff E (tdec v1 v2 op) v1 v2 ρ σ op with
 | some (v, σ', obl) => cond (obl.all fun b => b) (some (v, σ')) none
 | none => aeff0 E v1 v2 ρ σ op
def aeff (ρ : Operand → AV) (σ : St) (op : Op) : Option (AV × St) :=
 beff E (dnb (nlOf (opA ρ op)) (opA ρ op)) (dnb (nlOf (opB ρ op)) (opB ρ op)) ρ σ op
end
inductive Job where
 | code (c : Code) (fr : Fr)
 | scope (cur body : Code) (fr : Fr)
 | call (f : FuncId) (args : List AV)
 | yld (l : Nat) (args : List AV)
 | val (f : AV) (args : List AV)
inductive Out where
 | ex (e : Ex) (fr : Fr)
 | val (v : AV)
def awanted (fr : Fr) (ops : Array Oper) (o : Oper) : Option Bool :=
 match o.guard with
 | none => some true
 | some (j, want) => match ops[j]? with
   | some oj => match oj.dst with
     | some d => match fr.get d with
       | .bool b => some (b == want)
       | .bad => none
       | _ => some false
     | none => some false
   | none => some false
def aoper (E : Env) (rec : Job → St → Option (Out × St)) (ρ : Operand → AV) (σ : St) (op : Op) : Option (AV × St) :=
 match acls E op with
 | .read => match aread E ρ σ.get op with
   | some v => some (v, σ)
   | none => none
 | .alloc => match aalloc E ρ op with
   | some (o, f) => some (f σ.next, σ.new o)
   | none => none
 | .eff => match op with
   | .call c => match c.callee with
     | .value f => match rec (.val (ρ f) (c.args.toList.map ρ)) σ with
       | some (.val v, σ') => some (v, σ')
       | _ => none
     | _ => aeff E ρ σ op
   | _ => aeff E ρ σ op
def aops (E : Env) (rec : Job → St → Option (Out × St)) (ops : Array Oper) : List Oper → Fr → St → Option (Fr × St)
 | [], fr, σ => some (fr, σ)
 | o :: rest, fr, σ =>
   match awanted fr ops o with
   | none => none
   | some false => match fr.put o.dst .undef with
     | some fr' => aops E rec ops rest fr' σ
     | none => none
   | some true => match aoper E rec fr.eval σ o.op with
     | none => none
     | some (v, σ') => match fr.put o.dst v with
       | some fr' => aops E rec ops rest fr' σ'
       | none => none
end Go.Proofs.Ytmjmhpbncfjnpaa.Bm
