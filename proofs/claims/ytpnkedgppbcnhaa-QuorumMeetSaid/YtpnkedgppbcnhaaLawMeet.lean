/- Two majorities of one set have a node in common; so have those of two sets of which one has just one node more: for every input the law returns true, and the input reads as it did. No condition. -/
import Derived.Test.YtpnkedgppbcnhaaMeetA
import Derived.WalkKit
import Derived.ProofKit
import Derived.OpenShut
import Derived.ChangeOld
import Derived.Carry
import Derived.SizedLaws
set_option linter.unusedSimpArgs false
set_option linter.unusedVariables false
namespace Go.Proofs.Ytpnkedgppbcnhaa.quorumMeet
open Go.ChangeShapes Go.WideShapes Go.ChangeAt Go.RowKit Go.Proofs.Ytpnkedgppbcnhaa.Am
theorem own : ownKnob Try.prog.godebug = none := by kernel_rfl
theorem laidOut : laidOutB Try.prog = true := by kernel_rfl
theorem envOk0 : EnvOK Try.prog E0 := mkEnv_ok (by kernel_rfl) (by kernel_rfl)
theorem envOkB : EnvOK Try.prog (EB bitsR) := ⟨envOk0.ty, envOk0.fn, envOk0.mixed, rfl⟩
theorem envOk1 (p : Int → Nat) (R : Int → Bool) : EnvOK Try.prog (E1 bitsR p R) := ⟨envOk0.ty, envOk0.fn, envOk0.mixed, rfl⟩
theorem envOk2 (M : Int → Int → Bool) (R : Int → Bool) : EnvOK Try.prog (E2 bitsR M R) := ⟨envOk0.ty, envOk0.fn, envOk0.mixed, rfl⟩
theorem intrB (w0 : World) : IntrOK Try.prog w0 (EB bitsR) := fun f g args σ v σ' obl h => by
  have h : (none : Option Intr) = some g := h
  cases h

def rng (x : Int) : Bool := decide (0 ≤ x) && decide (x < 18446744073709551616)
def pop (x : Int) : Nat := popN 64 x.toNat
def maj (x y : Int) : Bool := decide (2 * popN 64 (x.toNat &&& y.toNat) > popN 64 y.toNat)

/-! ### Numbers -/
theorem wrapu {m : Nat} (h : m < 18446744073709551616) : IntKind.u64.wrap (m : Int) = (m : Int) := by
  have e : IntKind.u64.wrap (m : Int) = (m : Int) % 18446744073709551616 := by
    unfold IntKind.wrap
    simp [IntKind.bits, IntKind.signed]
  rw [e]; omega
theorem wrapi {m : Nat} (h : m < 9223372036854775808) : IntKind.i64.wrap (m : Int) = (m : Int) := by
  have e : IntKind.i64.wrap (m : Int) = if (m : Int) % 18446744073709551616 ≥ 9223372036854775808 then (m : Int) % 18446744073709551616 - 18446744073709551616 else (m : Int) % 18446744073709551616 := by
    unfold IntKind.wrap
    simp [IntKind.bits, IntKind.signed]
  rw [e]
  split <;> omega
theorem p64 : (18446744073709551616 : Nat) = 2 ^ 64 := by decide
theorem and_lt {a b : Nat} (h : a < 18446744073709551616) : a &&& b < 18446744073709551616 := Nat.lt_of_le_of_lt Nat.and_le_left h
theorem or_lt {a b : Nat} (h : a < 18446744073709551616) (h' : b < 18446744073709551616) : a ||| b < 18446744073709551616 := by
  rw [p64] at *
  exact Nat.or_lt_two_pow h h'
theorem vec {a : Nat} (h : a < 18446744073709551616) : (BitVec.ofInt 64 (a : Int)).toNat = a := by
  rw [BitVec.toNat_ofInt]
  have : ((2 ^ 64 : Nat) : Int) = 18446744073709551616 := by rw [← p64]; rfl
  rw [this]; omega
theorem band {a b : Nat} (ha : a < 18446744073709551616) (hb : b < 18446744073709551616) : bitsR .and .u64 (a : Int) (b : Int) = ((a &&& b : Nat) : Int) := by
  simp only [bitsR, bits2]
  show IntKind.u64.wrap (((BitVec.ofInt 64 (a : Int) &&& BitVec.ofInt 64 (b : Int)).toNat : Nat) : Int) = _
  rw [BitVec.toNat_and, vec ha, vec hb, wrapu (and_lt ha)]
theorem bor {a b : Nat} (ha : a < 18446744073709551616) (hb : b < 18446744073709551616) : bitsR .or .u64 (a : Int) (b : Int) = ((a ||| b : Nat) : Int) := by
  simp only [bitsR, bits2]
  show IntKind.u64.wrap (((BitVec.ofInt 64 (a : Int) ||| BitVec.ofInt 64 (b : Int)).toNat : Nat) : Int) = _
  rw [BitVec.toNat_or, vec ha, vec hb, wrapu (or_lt ha hb)]
theorem bandi {a b : Nat} (ha : a < 9223372036854775808) (hb : b < 9223372036854775808) : bitsR .and .i64 (a : Int) (b : Int) = ((a &&& b : Nat) : Int) := by
  simp only [bitsR, bits2]
  show IntKind.i64.wrap (((BitVec.ofInt 64 (a : Int) &&& BitVec.ofInt 64 (b : Int)).toNat : Nat) : Int) = _
  rw [BitVec.toNat_and, vec (by omega), vec (by omega), wrapi (Nat.lt_of_le_of_lt Nat.and_le_left ha)]
theorem fdiv_nat (y d : Nat) : Int.fdiv (y : Int) (d : Int) = ((y / d : Nat) : Int) := by
  rw [Int.fdiv_eq_ediv_of_nonneg _ (by omega)]; rfl

/-! ### OnesCount64 -/
theorem s1 {x : Nat} (hx : x < 18446744073709551616) (h1 : n1 x < 18446744073709551616) : allP [((n1 x : Nat) : Int) = IntKind.u64.wrap (bitsR .and .u64 (Int.fdiv (x : Int) (2 ^ min (Int.toNat 1) IntKind.u64.bits)) 6148914691236517205 + bitsR .and .u64 (x : Int) 6148914691236517205)] := by
  have e : (2 : Int) ^ min (Int.toNat 1) IntKind.u64.bits = ((2 : Nat) : Int) := by decide
  have c : (6148914691236517205 : Int) = ((6148914691236517205 : Nat) : Int) := rfl
  rw [e, fdiv_nat, c, band (by omega) (by omega), band hx (by omega)]
  refine ⟨?_, trivial⟩
  have := wrapu h1
  rw [← this]
  unfold n1
  rw [Int.natCast_add]
theorem s2 {x : Nat} (hx : x < 18446744073709551616) (h1 : n2 x < 18446744073709551616) : allP [((n2 x : Nat) : Int) = IntKind.u64.wrap (bitsR .and .u64 (Int.fdiv (x : Int) (2 ^ min (Int.toNat 2) IntKind.u64.bits)) 3689348814741910323 + bitsR .and .u64 (x : Int) 3689348814741910323)] := by
  have e : (2 : Int) ^ min (Int.toNat 2) IntKind.u64.bits = ((4 : Nat) : Int) := by decide
  have c : (3689348814741910323 : Int) = ((3689348814741910323 : Nat) : Int) := rfl
  rw [e, fdiv_nat, c, band (by omega) (by omega), band hx (by omega)]
  refine ⟨?_, trivial⟩
  have := wrapu h1
  rw [← this]
  unfold n2
  rw [Int.natCast_add]
theorem s4 {x : Nat} (hx : x / 16 + x < 18446744073709551616) : allP [((n4 x : Nat) : Int) = bitsR .and .u64 (IntKind.u64.wrap (Int.fdiv (x : Int) (2 ^ min (Int.toNat 4) IntKind.u64.bits) + (x : Int))) 1085102592571150095] := by
  have e : (2 : Int) ^ min (Int.toNat 4) IntKind.u64.bits = ((16 : Nat) : Int) := by decide
  have c : (1085102592571150095 : Int) = ((1085102592571150095 : Nat) : Int) := rfl
  rw [e, fdiv_nat, c, ← Int.natCast_add, wrapu hx, band hx (by omega)]
  exact ⟨rfl, trivial⟩
theorem s8 {x : Nat} (h1 : n8 x < 18446744073709551616) : allP [((n8 x : Nat) : Int) = IntKind.u64.wrap ((x : Int) + Int.fdiv (x : Int) (2 ^ min (Int.toNat 8) IntKind.u64.bits))] := by
  have e : (2 : Int) ^ min (Int.toNat 8) IntKind.u64.bits = ((256 : Nat) : Int) := by decide
  rw [e, fdiv_nat, ← Int.natCast_add]
  exact ⟨(wrapu h1).symm, trivial⟩
theorem s16 {x : Nat} (h1 : n16 x < 18446744073709551616) : allP [((n16 x : Nat) : Int) = IntKind.u64.wrap ((x : Int) + Int.fdiv (x : Int) (2 ^ min (Int.toNat 16) IntKind.u64.bits))] := by
  have e : (2 : Int) ^ min (Int.toNat 16) IntKind.u64.bits = ((65536 : Nat) : Int) := by decide
  rw [e, fdiv_nat, ← Int.natCast_add]
  exact ⟨(wrapu h1).symm, trivial⟩
theorem s32 {x : Nat} (h1 : n32 x < 18446744073709551616) : allP [((n32 x : Nat) : Int) = IntKind.u64.wrap ((x : Int) + Int.fdiv (x : Int) (2 ^ min (Int.toNat 32) IntKind.u64.bits))] := by
  have e : (2 : Int) ^ min (Int.toNat 32) IntKind.u64.bits = ((4294967296 : Nat) : Int) := by decide
  rw [e, fdiv_nat, ← Int.natCast_add]
  exact ⟨(wrapu h1).symm, trivial⟩
theorem s7 {x : Nat} (h : x < 9223372036854775808) : allP [((x % 128 : Nat) : Int) = bitsR .and .i64 (IntKind.i64.wrap (x : Int)) 127] := by
  have c : (127 : Int) = ((127 : Nat) : Int) := rfl
  rw [wrapi h, c, bandi h (by omega)]
  refine ⟨?_, trivial⟩
  have := Nat.and_two_pow_sub_one_eq_mod x 7
  rw [show (2 : Nat) ^ 7 - 1 = 127 from rfl, show (2 : Nat) ^ 7 = 128 from rfl] at this
  rw [this]

theorem csO_eq : csO = oA ++ (oB ++ (oC ++ (oD ++ (oE ++ (oF ++ oG))))) := by kernel_rfl
theorem fO_some : (E0.fn.get 23).isSome = true := by kernel_rfl
theorem fO_body : ((E0.fn.get 23).bind fun fn => fn.body).isSome = true := by kernel_rfl
theorem fO_tmps : (E0.fn.get 23).map (fun fn => fn.ntmps) = some 35 := by kernel_rfl
theorem fO_res : (E0.fn.get 23).map (fun fn => fn.results.toList) = some [.tmp 2] := by kernel_rfl
theorem st1 (W : World) (k x : Nat) (hp : allP [((n1 x : Nat) : Int) = IntKind.u64.wrap (bitsR .and .u64 (Int.fdiv (x : Int) (2 ^ min (Int.toNat 1) IntKind.u64.bits)) 6148914691236517205 + bitsR .and .u64 (x : Int) 6148914691236517205)]) {a : Act} {w : World}
    (hA : At W { tmps := Tr.ofList [.int .u64 x] 0 .nil, size := 35, marks := [], rnd := none } (stC []) none a w) : lwp (fen none) k Try.prog oA (fun e a' w' => e = Exit.normal ∧ AtO W (LO (n1 x)) [] none a' w') a w :=
  lwp_path envOkB (intrB W) (o1_is bitsR x) hp hA
theorem st2 (W : World) (k y : Nat) (hp : allP [((n2 y : Nat) : Int) = IntKind.u64.wrap (bitsR .and .u64 (Int.fdiv (y : Int) (2 ^ min (Int.toNat 2) IntKind.u64.bits)) 3689348814741910323 + bitsR .and .u64 (y : Int) 3689348814741910323)]) {a : Act} {w : World}
    (hC : AtO W (LO y) [] none a w) : lwp (fen none) k Try.prog oB (fun e a' w' => e = Exit.normal ∧ AtO W (LO (n2 y)) [] none a' w') a w := by
  obtain ⟨o, hA⟩ := hC
  exact lwp_path envOkB (intrB W) (o2_is bitsR o y) hp hA
theorem st4 (W : World) (k y : Nat) (hp : allP [((n4 y : Nat) : Int) = bitsR .and .u64 (IntKind.u64.wrap (Int.fdiv (y : Int) (2 ^ min (Int.toNat 4) IntKind.u64.bits) + (y : Int))) 1085102592571150095]) {a : Act} {w : World}
    (hC : AtO W (LO y) [] none a w) : lwp (fen none) k Try.prog oC (fun e a' w' => e = Exit.normal ∧ AtO W (LO (n4 y)) [] none a' w') a w := by
  obtain ⟨o, hA⟩ := hC
  exact lwp_path envOkB (intrB W) (o3_is bitsR o y) hp hA
theorem st8 (W : World) (k y : Nat) (hp : allP [((n8 y : Nat) : Int) = IntKind.u64.wrap ((y : Int) + Int.fdiv (y : Int) (2 ^ min (Int.toNat 8) IntKind.u64.bits))]) {a : Act} {w : World}
    (hC : AtO W (LO y) [] none a w) : lwp (fen none) k Try.prog oD (fun e a' w' => e = Exit.normal ∧ AtO W (LO (n8 y)) [] none a' w') a w := by
  obtain ⟨o, hA⟩ := hC
  exact lwp_path envOkB (intrB W) (o4_is bitsR o y) hp hA
theorem st16 (W : World) (k y : Nat) (hp : allP [((n16 y : Nat) : Int) = IntKind.u64.wrap ((y : Int) + Int.fdiv (y : Int) (2 ^ min (Int.toNat 16) IntKind.u64.bits))]) {a : Act} {w : World}
    (hC : AtO W (LO y) [] none a w) : lwp (fen none) k Try.prog oE (fun e a' w' => e = Exit.normal ∧ AtO W (LO (n16 y)) [] none a' w') a w := by
  obtain ⟨o, hA⟩ := hC
  exact lwp_path envOkB (intrB W) (o5_is bitsR o y) hp hA
theorem st32 (W : World) (k y : Nat) (hp : allP [((n32 y : Nat) : Int) = IntKind.u64.wrap ((y : Int) + Int.fdiv (y : Int) (2 ^ min (Int.toNat 32) IntKind.u64.bits))]) {a : Act} {w : World}
    (hC : AtO W (LO y) [] none a w) : lwp (fen none) k Try.prog oF (fun e a' w' => e = Exit.normal ∧ AtO W (LO (n32 y)) [] none a' w') a w := by
  obtain ⟨o, hA⟩ := hC
  exact lwp_path envOkB (intrB W) (o6_is bitsR o y) hp hA
theorem st7 (W : World) (k y : Nat) (hp : allP [((y % 128 : Nat) : Int) = bitsR .and .i64 (IntKind.i64.wrap (y : Int)) 127]) {a : Act} {w : World}
    (hC : AtO W (LO y) [] none a w) : lwp (fen none) k Try.prog oG (fun e a' w' => e = Exit.ret ∧ AtO W (LO9 (y % 128)) [] none a' w') a w := by
  obtain ⟨o, hA⟩ := hC
  exact lwp_path envOkB (intrB W) (o7_is bitsR o y) hp hA

theorem count_calls (W : World) (k x : Nat) (hx : x < 18446744073709551616) {φ : Phi} {us : List Value} (hR : Rel W φ (stC []).get (stC []).next W) (hv : VRL φ [.int .u64 x] us) :
    CallsIn (fen none) k Try.prog 23 us.toArray W fun e W' => e = .returned (.int .i64 (popN 64 x)) ∧ Below W.heap.size W W' := by
  obtain ⟨fn, hfn⟩ := Option.isSome_iff_exists.1 fO_some
  have hb0 := fO_body
  have ht := fO_tmps
  have hr := fO_res
  rw [hfn] at hb0 ht hr
  simp only [Option.bind_some, Option.map_some, Option.some.injEq] at hb0 ht hr
  obtain ⟨c, hb⟩ := Option.isSome_iff_exists.1 hb0
  have hcs : flat c = csO := by simp only [csO, codeOf, hfn, hb]
  have hfn' : (EB bitsR).fn.get 23 = some fn := hfn
  obtain ⟨b1, b2, b3, b4, b5, b6, b7, b8⟩ := steps x hx
  refine calls_at envOkB hfn' hb (by rw [ht]; simp) hR hv fun a hA => ?_
  rw [ht] at hA
  refine lwp_flat c _ a W ?_
  rw [hcs, csO_eq]
  refine lwp_join oA a W (lwp_mono (fun e a1 w1 hq => ?_) _ _ _ (st1 W k x (s1 hx b1) hA))
  obtain ⟨rfl, h1⟩ := hq
  refine lwp_join oB a1 w1 (lwp_mono (fun e a2 w2 hq => ?_) _ _ _ (st2 W k _ (s2 b1 b2) h1))
  obtain ⟨rfl, h2⟩ := hq
  refine lwp_join oC a2 w2 (lwp_mono (fun e a3 w3 hq => ?_) _ _ _ (st4 W k _ (s4 b3) h2))
  obtain ⟨rfl, h3⟩ := hq
  refine lwp_join oD a3 w3 (lwp_mono (fun e a4 w4 hq => ?_) _ _ _ (st8 W k _ (s8 b5) h3))
  obtain ⟨rfl, h4⟩ := hq
  refine lwp_join oE a4 w4 (lwp_mono (fun e a5 w5 hq => ?_) _ _ _ (st16 W k _ (s16 b6) h4))
  obtain ⟨rfl, h5⟩ := hq
  refine lwp_join oF a5 w5 (lwp_mono (fun e a6 w6 hq => ?_) _ _ _ (st32 W k _ (s32 (by omega)) h5))
  obtain ⟨rfl, h6⟩ := hq
  refine lwp_mono (fun e a' w' hq => ?_) _ _ _ (st7 W k _ (s7 b7) h6)
  obtain ⟨rfl, o, hat⟩ := hq
  rw [b8] at hat
  refine ⟨.inr rfl, frO (LO9 (popN 64 x)) o, stC [], stC [], .int .i64 (popN 64 x), hat, rfl, ?_, fun φ' u w'' h1 h2 => ?_⟩
  · rw [hr]; rfl
  · simp only [VR] at h1
    exact ⟨by rw [h1], h2.below⟩

theorem body_of {f : Nat} {fn : Func} (h : ((E0.fn.get f).bind fun fn => fn.body).isSome = true) (hfn : E0.fn.get f = some fn) : fn.body.isNone = false := by
  rw [hfn] at h
  obtain ⟨c, hb⟩ := Option.isSome_iff_exists.1 h
  have hb : fn.body = some c := hb
  rw [hb]; rfl

theorem intr1 (w0 : World) : IntrOK Try.prog w0 (E1 bitsR pop rng) := by
  intro f g args σ v σ' obl hg hr ho
  have hg : cond (Nat.beq f 23) (some (ocI pop rng)) none = some g := hg
  cases hf : Nat.beq f 23 with
  | false => rw [hf] at hg; cases hg
  | true =>
    rw [hf] at hg
    simp only [cond_true, Option.some.injEq] at hg
    subst hg
    have := Nat.eq_of_beq_eq_true hf; subst this
    have hr : ocRun pop rng args σ = some (v, σ', obl) := hr
    unfold ocRun at hr
    split at hr
    · rename_i x
      simp only [Option.some.injEq, Prod.mk.injEq] at hr
      obtain ⟨rfl, rfl, rfl⟩ := hr
      simp only [List.all_cons, List.all_nil, Bool.and_true, rng, Bool.and_eq_true, decide_eq_true_eq] at ho
      obtain ⟨m, rfl⟩ := Int.eq_ofNat_of_zero_le ho.1
      obtain ⟨fn, hfn⟩ := Option.isSome_iff_exists.1 fO_some
      refine callOK_reads envOk0 hfn (body_of fO_body hfn) fun k φ w us hR hus => ?_
      have hus' : VRL (fun _ => none) [AV.int .u64 (m : Int)] us := by
        simp only [VRL, VR] at hus ⊢; exact hus
      refine CallsIn.mono (count_calls w k m (by omega) (rel_empty w) hus') fun e W' he => ?_
      obtain ⟨rfl, hB⟩ := he
      exact ⟨_, rfl, fun φ => by simp only [VR, pop, Int.toNat_natCast], hB⟩
    · cases hr

theorem fM_some : (E0.fn.get 15).isSome = true := by kernel_rfl
theorem fM_body : ((E0.fn.get 15).bind fun fn => fn.body).isSome = true := by kernel_rfl
theorem live : resB E0 100000 7 [] (stC []) = true := by kernel_rfl
theorem intr2 (w0 : World) : IntrOK Try.prog w0 (E2 bitsR maj rng) := by
  intro f g args σ v σ' obl hg hr ho
  have hg : cond (Nat.beq f 15) (some (maI maj rng)) (cond (Nat.beq f 7) (some liI) none) = some g := hg
  cases hf : Nat.beq f 15 with
  | false =>
    rw [hf] at hg
    simp only [cond_false] at hg
    cases hf7 : Nat.beq f 7 with
    | false => rw [hf7] at hg; cases hg
    | true =>
      rw [hf7] at hg
      simp only [cond_true, Option.some.injEq] at hg
      subst hg
      have := Nat.eq_of_beq_eq_true hf7; subst this
      have hr : liRun args σ = some (v, σ', obl) := hr
      unfold liRun at hr
      split at hr
      · simp only [Option.some.injEq, Prod.mk.injEq] at hr
        obtain ⟨rfl, rfl, rfl⟩ := hr
        exact lives_ok envOk0 (fun _ => mkEnv_intr) live w0 σ
      · cases hr
  | true =>
    rw [hf] at hg
    simp only [cond_true, Option.some.injEq] at hg
    subst hg
    have := Nat.eq_of_beq_eq_true hf; subst this
    have hr : maRun maj rng args σ = some (v, σ', obl) := hr
    unfold maRun at hr
    split at hr
    · rename_i x y
      simp only [Option.some.injEq, Prod.mk.injEq] at hr
      obtain ⟨rfl, rfl, rfl⟩ := hr
      simp only [List.all_cons, List.all_nil, Bool.and_true, Bool.and_eq_true] at ho
      obtain ⟨ho1, ho2⟩ := ho
      have r1 := ho1
      have r2 := ho2
      simp only [rng, Bool.and_eq_true, decide_eq_true_eq] at r1 r2
      obtain ⟨m, rfl⟩ := Int.eq_ofNat_of_zero_le r1.1
      obtain ⟨n, rfl⟩ := Int.eq_ofNat_of_zero_le r2.1
      have hm : m < 18446744073709551616 := by omega
      have hn : n < 18446744073709551616 := by omega
      obtain ⟨fn, hfn⟩ := Option.isSome_iff_exists.1 fM_some
      refine callOK_reads envOk0 hfn (body_of fM_body hfn) fun k φ w us hR hus => ?_
      have hus' : VRL (fun _ => none) [AV.int .u64 (m : Int), AV.int .u64 (n : Int)] us := by
        simp only [VRL, VR] at hus ⊢; exact hus
      have hmn : m &&& n < 18446744073709551616 := and_lt hm
      refine callsW (envOk1 pop rng) (intr1 w) (mj_is bitsR pop rng m n (maj m n)) ⟨?_, ?_, ?_, trivial⟩ k (rel_empty w) hus'
      · rw [band hm hn]
        simp only [rng, Bool.and_eq_true, decide_eq_true_eq]; omega
      · exact ho2
      · rw [band hm hn]
        have hp := popN_le 64 (m &&& n)
        have hw := wrapi (m := 2 * popN 64 (m &&& n)) (by omega)
        have e : (2 : Int) * ((pop ((m &&& n : Nat) : Int) : Nat) : Int) = ((2 * popN 64 (m &&& n) : Nat) : Int) := by
          simp only [pop, Int.toNat_natCast]; rw [Int.natCast_mul]; rfl
        rw [e, hw]
        simp only [maj, pop, Int.toNat_natCast]
        exact decide_eq_decide.2 (by omega)
    · cases hr

/-! ### The law -/
theorem aN_ok (B : Bits) (M : Int → Int → Bool) (R : Int → Bool) (a b c : Nat) (nd : Int) (h0 : 0 ≤ nd) (h64 : nd < 64) (ra : R a = true) (rb : R b = true) (rc : R c = true) (hma : M a c = false) : ∃ ps, aN B M R a b c nd = some ps ∧ allP ps := by
  have H := aN_is B M R a b c nd
  refine ⟨_, H, ?_⟩
  clear H
  repeat' (refine And.intro ?_ ?_)
  all_goals first | exact trivial | assumption | (simp [h0, h64, ra, rb, rc, hma]; done) | (simp; omega)
theorem aX_ok (B : Bits) (M : Int → Int → Bool) (R : Int → Bool) (a b c : Nat) (nd : Int) (h0 : 0 ≤ nd) (h64 : nd < 64) (ra : R a = true) (rb : R b = true) (rc : R c = true) (rm : R (B .or .u64 c (IntKind.u64.wrap (1 * 2 ^ min (Int.toNat nd) IntKind.u64.bits))) = true) (hma : M a c = true) (hmb : M b c = true) (z : ¬ B .and .u64 (B .and .u64 a b) c = 0) (hm3 : M b (B .or .u64 c (IntKind.u64.wrap (1 * 2 ^ min (Int.toNat nd) IntKind.u64.bits))) = false) : ∃ ps, aX B M R a b c nd = some ps ∧ allP ps := by
  have H := aX_is B M R a b c nd
  generalize B .or .u64 (c : Int) (IntKind.u64.wrap (1 * 2 ^ min (Int.toNat nd) IntKind.u64.bits)) = q at H rm hm3
  refine ⟨_, H, ?_⟩
  clear H
  repeat' (refine And.intro ?_ ?_)
  all_goals first | exact trivial | assumption | (simp [h0, h64, ra, rb, rc, rm, hma, hmb, z, hm3]; done) | (simp; omega)
theorem aY_ok (B : Bits) (M : Int → Int → Bool) (R : Int → Bool) (a b c : Nat) (nd : Int) (h0 : 0 ≤ nd) (h64 : nd < 64) (ra : R a = true) (rb : R b = true) (rc : R c = true) (rm : R (B .or .u64 c (IntKind.u64.wrap (1 * 2 ^ min (Int.toNat nd) IntKind.u64.bits))) = true) (hma : M a c = true) (hmb : M b c = true) (z : ¬ B .and .u64 (B .and .u64 a b) c = 0) (hm3 : M b (B .or .u64 c (IntKind.u64.wrap (1 * 2 ^ min (Int.toNat nd) IntKind.u64.bits))) = true) (y : ¬ B .and .u64 (B .and .u64 a b) (B .or .u64 c (IntKind.u64.wrap (1 * 2 ^ min (Int.toNat nd) IntKind.u64.bits))) = 0) : ∃ ps, aY B M R a b c nd = some ps ∧ allP ps := by
  have H := aY_is B M R a b c nd
  generalize B .or .u64 (c : Int) (IntKind.u64.wrap (1 * 2 ^ min (Int.toNat nd) IntKind.u64.bits)) = q at H rm hm3 y
  refine ⟨_, H, ?_⟩
  clear H
  repeat' (refine And.intro ?_ ?_)
  all_goals first | exact trivial | assumption | (simp [h0, h64, ra, rb, rc, rm, hma, hmb, z, hm3, y]; done) | (simp; omega)
theorem aU_ok (B : Bits) (M : Int → Int → Bool) (R : Int → Bool) (a b c : Nat) (nd : Int) (h0 : 0 ≤ nd) (h64 : nd < 64) (ra : R a = true) (rb : R b = true) (rc : R c = true) (rm : R (B .or .u64 c (IntKind.u64.wrap (1 * 2 ^ min (Int.toNat nd) IntKind.u64.bits))) = true) (hma : M a c = true) (hmb : M b c = false) (hm3 : M b (B .or .u64 c (IntKind.u64.wrap (1 * 2 ^ min (Int.toNat nd) IntKind.u64.bits))) = false) : ∃ ps, aU B M R a b c nd = some ps ∧ allP ps := by
  have H := aU_is B M R a b c nd
  generalize B .or .u64 (c : Int) (IntKind.u64.wrap (1 * 2 ^ min (Int.toNat nd) IntKind.u64.bits)) = q at H rm hm3
  refine ⟨_, H, ?_⟩
  clear H
  repeat' (refine And.intro ?_ ?_)
  all_goals first | exact trivial | assumption | (simp [h0, h64, ra, rb, rc, rm, hma, hmb, hm3]; done) | (simp; omega)
theorem aV_ok (B : Bits) (M : Int → Int → Bool) (R : Int → Bool) (a b c : Nat) (nd : Int) (h0 : 0 ≤ nd) (h64 : nd < 64) (ra : R a = true) (rb : R b = true) (rc : R c = true) (rm : R (B .or .u64 c (IntKind.u64.wrap (1 * 2 ^ min (Int.toNat nd) IntKind.u64.bits))) = true) (hma : M a c = true) (hmb : M b c = false) (hm3 : M b (B .or .u64 c (IntKind.u64.wrap (1 * 2 ^ min (Int.toNat nd) IntKind.u64.bits))) = true) (y : ¬ B .and .u64 (B .and .u64 a b) (B .or .u64 c (IntKind.u64.wrap (1 * 2 ^ min (Int.toNat nd) IntKind.u64.bits))) = 0) : ∃ ps, aV B M R a b c nd = some ps ∧ allP ps := by
  have H := aV_is B M R a b c nd
  generalize B .or .u64 (c : Int) (IntKind.u64.wrap (1 * 2 ^ min (Int.toNat nd) IntKind.u64.bits)) = q at H rm hm3 y
  refine ⟨_, H, ?_⟩
  clear H
  repeat' (refine And.intro ?_ ?_)
  all_goals first | exact trivial | assumption | (simp [h0, h64, ra, rb, rc, rm, hma, hmb, hm3, y]; done) | (simp; omega)
theorem hN_ok (B : Bits) (M : Int → Int → Bool) (R : Int → Bool) (a b c : Nat) (nd : Int) (h0 : 0 ≤ nd) (h64 : ¬ nd < 64) (ra : R a = true) (rb : R b = true) (rc : R c = true) (hma : M a c = false) : ∃ ps, hN B M R a b c nd = some ps ∧ allP ps := by
  have H := hN_is B M R a b c nd
  refine ⟨_, H, ?_⟩
  clear H
  repeat' (refine And.intro ?_ ?_)
  all_goals first | exact trivial | assumption | (simp [h0, h64, ra, rb, rc, hma]; done) | (simp; omega)
theorem hY_ok (B : Bits) (M : Int → Int → Bool) (R : Int → Bool) (a b c : Nat) (nd : Int) (h0 : 0 ≤ nd) (h64 : ¬ nd < 64) (ra : R a = true) (rb : R b = true) (rc : R c = true) (hma : M a c = true) (hmb : M b c = true) (z : ¬ B .and .u64 (B .and .u64 a b) c = 0)  : ∃ ps, hY B M R a b c nd = some ps ∧ allP ps := by
  have H := hY_is B M R a b c nd
  refine ⟨_, H, ?_⟩
  clear H
  repeat' (refine And.intro ?_ ?_)
  all_goals first | exact trivial | assumption | (simp [h0, h64, ra, rb, rc, hma, hmb, z]; done) | (simp; omega)
theorem hU_ok (B : Bits) (M : Int → Int → Bool) (R : Int → Bool) (a b c : Nat) (nd : Int) (h0 : 0 ≤ nd) (h64 : ¬ nd < 64) (ra : R a = true) (rb : R b = true) (rc : R c = true) (hma : M a c = true) (hmb : M b c = false) : ∃ ps, hU B M R a b c nd = some ps ∧ allP ps := by
  have H := hU_is B M R a b c nd
  refine ⟨_, H, ?_⟩
  clear H
  repeat' (refine And.intro ?_ ?_)
  all_goals first | exact trivial | assumption | (simp [h0, h64, ra, rb, rc, hma, hmb]; done) | (simp; omega)
theorem lN_ok (B : Bits) (M : Int → Int → Bool) (R : Int → Bool) (a b c : Nat) (nd : Int) (h0 : ¬ 0 ≤ nd) (ra : R a = true) (rb : R b = true) (rc : R c = true) (hma : M a c = false) : ∃ ps, lN B M R a b c nd = some ps ∧ allP ps := by
  have H := lN_is B M R a b c nd
  refine ⟨_, H, ?_⟩
  clear H
  repeat' (refine And.intro ?_ ?_)
  all_goals first | exact trivial | assumption | (simp [h0, ra, rb, rc, hma]; done) | (simp; omega)
theorem lY_ok (B : Bits) (M : Int → Int → Bool) (R : Int → Bool) (a b c : Nat) (nd : Int) (h0 : ¬ 0 ≤ nd) (ra : R a = true) (rb : R b = true) (rc : R c = true) (hma : M a c = true) (hmb : M b c = true) (z : ¬ B .and .u64 (B .and .u64 a b) c = 0)  : ∃ ps, lY B M R a b c nd = some ps ∧ allP ps := by
  have H := lY_is B M R a b c nd
  refine ⟨_, H, ?_⟩
  clear H
  repeat' (refine And.intro ?_ ?_)
  all_goals first | exact trivial | assumption | (simp [h0, ra, rb, rc, hma, hmb, z]; done) | (simp; omega)
theorem lU_ok (B : Bits) (M : Int → Int → Bool) (R : Int → Bool) (a b c : Nat) (nd : Int) (h0 : ¬ 0 ≤ nd) (ra : R a = true) (rb : R b = true) (rc : R c = true) (hma : M a c = true) (hmb : M b c = false) : ∃ ps, lU B M R a b c nd = some ps ∧ allP ps := by
  have H := lU_is B M R a b c nd
  refine ⟨_, H, ?_⟩
  clear H
  repeat' (refine And.intro ?_ ?_)
  all_goals first | exact trivial | assumption | (simp [h0, ra, rb, rc, hma, hmb]; done) | (simp; omega)

theorem law_run_ (W : World) (a b c : Nat) (nd : Int) {t : Am.Tape} (h : ∃ ps, resA (E2 bitsR maj rng) 3000 5 [AV.int .u64 (a : Int), AV.int .u64 (b : Int), AV.int .u64 (c : Int), AV.int .i64 nd] (stC []) t = some ps ∧ allP ps) :
    Calls Try.prog 5 #[.int .u64 a, .int .u64 b, .int .u64 c, .int .i64 nd] W fun e W' => e = .returned (.bool true) ∧ Below W.heap.size W W' := by
  obtain ⟨ps, h, hp⟩ := h
  exact law_runA (envOk2 maj rng) (intr2 W) (us := [.int .u64 a, .int .u64 b, .int .u64 c, .int .i64 nd]) (rel_empty W) (VRL.cons (by simp only [VR]) (VRL.cons (by simp only [VR]) (VRL.cons (by simp only [VR]) (VRL.cons (by simp only [VR]) VRL.nil)))) h hp
theorem rng_nat {a : Nat} (h : a < 18446744073709551616) : rng (a : Int) = true := by
  simp only [rng, Bool.and_eq_true, decide_eq_true_eq]; omega
theorem z_one {a b c : Nat} (ha : a < 18446744073709551616) (hb : b < 18446744073709551616) (hc : c < 18446744073709551616) (h1 : maj a c = true) (h2 : maj b c = true) : ¬ bitsR .and .u64 (bitsR .and .u64 a b) c = 0 := by
  rw [band ha hb, band (and_lt ha) hc]
  simp only [maj, Int.toNat_natCast, decide_eq_true_eq] at h1 h2
  have := meet_one h1 h2
  omega
theorem more_is {c n : Nat} (hc : c < 18446744073709551616) (hn : n < 64) : bitsR .or .u64 (c : Int) (IntKind.u64.wrap (1 * 2 ^ min (Int.toNat (n : Int)) IntKind.u64.bits)) = ((c ||| 2 ^ n : Nat) : Int) ∧ c ||| 2 ^ n < 18446744073709551616 := by
  have hp : 2 ^ n < 18446744073709551616 := by
    rw [p64]; exact Nat.pow_lt_pow_right (by omega) hn
  have hw : IntKind.u64.wrap (1 * 2 ^ min (Int.toNat (n : Int)) IntKind.u64.bits) = ((2 ^ n : Nat) : Int) := by
    have e : min (Int.toNat (n : Int)) IntKind.u64.bits = n := by
      rw [Int.toNat_natCast, show IntKind.u64.bits = 64 from rfl]; omega
    rw [e, Int.one_mul]
    have e2 : ((2 : Int) ^ n) = ((2 ^ n : Nat) : Int) := by rw [Int.natCast_pow]; rfl
    rw [e2]; exact wrapu hp
  rw [hw]
  exact ⟨bor hc hp, or_lt hc hp⟩
theorem z_two {a b c n : Nat} (ha : a < 18446744073709551616) (hb : b < 18446744073709551616) (hm : c ||| 2 ^ n < 18446744073709551616) (h1 : maj a c = true) (h2 : maj b ((c ||| 2 ^ n : Nat) : Int) = true) : ¬ bitsR .and .u64 (bitsR .and .u64 a b) ((c ||| 2 ^ n : Nat) : Int) = 0 := by
  rw [band ha hb, band (and_lt ha) hm]
  simp only [maj, Int.toNat_natCast, decide_eq_true_eq] at h1 h2
  have := meet_more (sub_or c _) (pop_or c n) h1 h2
  omega
theorem law (W : World) (a b c : Nat) (nd : Int) (ha : a < 18446744073709551616) (hb : b < 18446744073709551616) (hc : c < 18446744073709551616) :
    Calls Try.prog 5 #[.int .u64 a, .int .u64 b, .int .u64 c, .int .i64 nd] W fun e W' => e = .returned (.bool true) ∧ Below W.heap.size W W' := by
  have ra := rng_nat ha
  have rb := rng_nat hb
  have rc := rng_nat hc
  by_cases h0 : 0 ≤ nd
  · by_cases h64 : nd < 64
    · obtain ⟨n, rfl⟩ := Int.eq_ofNat_of_zero_le h0
      obtain ⟨more, hm⟩ := more_is hc (n := n) (by omega)
      have rm := rng_nat hm
      have y := fun h1 h2 => z_two ha hb hm h1 h2
      rw [← more] at rm y
      cases hma : maj a c with
      | false => exact law_run_ W a b c n (aN_ok bitsR maj rng a b c n h0 h64 ra rb rc hma)
      | true =>
        cases hm3 : maj b (bitsR .or .u64 (c : Int) (IntKind.u64.wrap (1 * 2 ^ min (Int.toNat (n : Int)) IntKind.u64.bits))) with
        | false =>
          cases hmb : maj b c with
          | true => exact law_run_ W a b c n (aX_ok bitsR maj rng a b c n h0 h64 ra rb rc rm hma hmb (z_one ha hb hc hma hmb) hm3)
          | false => exact law_run_ W a b c n (aU_ok bitsR maj rng a b c n h0 h64 ra rb rc rm hma hmb hm3)
        | true =>
          cases hmb : maj b c with
          | true => exact law_run_ W a b c n (aY_ok bitsR maj rng a b c n h0 h64 ra rb rc rm hma hmb (z_one ha hb hc hma hmb) hm3 (y hma hm3))
          | false => exact law_run_ W a b c n (aV_ok bitsR maj rng a b c n h0 h64 ra rb rc rm hma hmb hm3 (y hma hm3))
    · cases hma : maj a c with
      | false => exact law_run_ W a b c nd (hN_ok bitsR maj rng a b c nd h0 h64 ra rb rc hma)
      | true =>
        cases hmb : maj b c with
        | true => exact law_run_ W a b c nd (hY_ok bitsR maj rng a b c nd h0 h64 ra rb rc hma hmb (z_one ha hb hc hma hmb))
        | false => exact law_run_ W a b c nd (hU_ok bitsR maj rng a b c nd h0 h64 ra rb rc hma hmb)
  · cases hma : maj a c with
    | false => exact law_run_ W a b c nd (lN_ok bitsR maj rng a b c nd h0 ra rb rc hma)
    | true =>
      cases hmb : maj b c with
      | true => exact law_run_ W a b c nd (lY_ok bitsR maj rng a b c nd h0 ra rb rc hma hmb (z_one ha hb hc hma hmb))
      | false => exact law_run_ W a b c nd (lU_ok bitsR maj rng a b c nd h0 ra rb rc hma hmb)

theorem arg_u64 {H : Type} {enc : TypeId × Value → H} {W : World} {x : Int} {d : DataW H} {p : List MemPlace} (h : DataW.Trod enc Try.prog W 0 (fun _ => true) true 22 (.int .u64 x) d p) : ∃ n : Nat, x = n ∧ n < 18446744073709551616 := by
  obtain ⟨fuel, h⟩ := h
  have h : DataW.trod enc Try.prog W 0 (fun _ => true) true fuel 22 [.int .u64 x] = some (d, p) := h
  obtain ⟨m, q1, _, q3⟩ := DataW.trod_int Try.underlying22 h
  have : x = m := by simpa using q1
  subst this
  simp only [Lit.wf, Bool.and_eq_true, decide_eq_true_eq] at q3
  have h1 : IntKind.u64.min = 0 := by decide
  have h2 : IntKind.u64.max = 18446744073709551615 := by decide
  rw [h1, h2] at q3
  obtain ⟨n, rfl⟩ := Int.eq_ofNat_of_zero_le q3.1
  exact ⟨n, rfl, by omega⟩

set_option maxRecDepth 100000 in
theorem lifted (os : Os) (started : os.Started) (H : Type) (enc : TypeId × Value → H) :
    ReturnsInHanded {} Try.checked os 5 .any (Rows.quorumMeetSpec.pre6 enc Try.prog Try.f5 Rows.quorumMeetRow.domain false) (Rows.quorumMeetSpec.post enc Try.prog Try.f5 false true false false) := by
  refine returnsInHanded_of_change_sized (C := Try.checked) own started (by kernel_rfl) Try.func5
    (ChangeSpec.witness6 (enc := enc) (C := Try.checked) false ⟨#[], #[.int .u64 0, .int .u64 0, .int .u64 0, .int .i64 0], []⟩ 8 (by kernel_rfl) (by kernel_rfl) (by kernel_rfl) (by kernel_rfl)) ?_
  intro W base args ds gs before hval0 hW hcnd hsz0 _
  have hval : ∀ (j : Nat) t v, Try.f5.params[j]? = some t → args[j]? = some v → Value.okWide Try.prog W .any base t v := hval0
  have hW' := hW
  obtain ⟨p, q, hA0, hV, rfl, hfz, hnd⟩ := hW
  have hA : DataW.TrodAll enc Try.prog W 0 (fun _ => true) true Try.f5.params.toList args.toList ds p := hA0
  rw [Try.params5] at hA hval
  obtain ⟨v0, vs0, d0, ds0, p0, q0, hargs, rfl, rfl, h0, r0⟩ := trodAll_cons hA
  obtain ⟨v1, vs1, d1, ds1, p1, q1, rfl, rfl, rfl, h1, r1⟩ := trodAll_cons r0
  obtain ⟨v2, vs2, d2, ds2, p2, q2, rfl, rfl, rfl, h2, r2⟩ := trodAll_cons r1
  obtain ⟨v3, vs3, d3, ds3, p3, q3, rfl, rfl, rfl, h3, r3⟩ := trodAll_cons r2
  obtain ⟨rfl, rfl, rfl⟩ := trodAll_nil r3
  obtain rfl : args = #[v0, v1, v2, v3] := by cases args; simp_all
  obtain ⟨rfl, rfl⟩ := trodVars_none hV
  obtain ⟨x0, rfl⟩ := okWide_int Try.underlying22 (hval 0 22 v0 rfl rfl)
  obtain ⟨x1, rfl⟩ := okWide_int Try.underlying22 (hval 1 22 v1 rfl rfl)
  obtain ⟨x2, rfl⟩ := okWide_int Try.underlying22 (hval 2 22 v2 rfl rfl)
  obtain ⟨x3, rfl⟩ := okWide_int Try.underlying3 (hval 3 3 v3 rfl rfl)
  have lt : ∀ {t v d p}, DataW.Trod enc Try.prog W 0 (fun _ => true) true t v d p → ∀ y ∈ p, y.block < W.heap.size := fun h => by obtain ⟨m, hm⟩ := h; exact DataW.trod_lt m _ _ _ hm
  obtain ⟨a, rfl, ha⟩ := arg_u64 h0
  obtain ⟨b, rfl, hb⟩ := arg_u64 h1
  obtain ⟨c, rfl, hc⟩ := arg_u64 h2
  refine (law W a b c x3 ha hb hc).mono fun e W' ⟨he, bel⟩ => ?_
  subst he
  exact ⟨_, rfl, _, _, _, [], _, [], hW', trodAll_mk1 (shut_bool Try.underlying4 _), (trodAll_cons_mk (Below.trod laidOut (by kernel_rfl) (of_decide_eq_true (by kernel_rfl)) h0 bel (lt h0)) (trodAll_cons_mk (Below.trod laidOut (by kernel_rfl) (of_decide_eq_true (by kernel_rfl)) h1 bel (lt h1))
    (trodAll_cons_mk (Below.trod laidOut (by kernel_rfl) (of_decide_eq_true (by kernel_rfl)) h2 bel (lt h2)) (trodAll_cons_mk (Below.trod laidOut (by kernel_rfl) (of_decide_eq_true (by kernel_rfl)) h3 bel (lt h3)) trodAll_mk0)))), rfl, bel.frame _, fun h => by cases h⟩
theorem over : Rows.quorumMeetRow.holds Try.pinned (OpenSpec.ofChange Rows.quorumMeetSpec) :=
  OpenClaim.holds_of_wide 5 Try.f5 rfl rfl rfl rfl rfl rfl rfl ⟨rfl, rfl, rfl, rfl, rfl⟩ rfl rfl rfl rfl rfl (by kernel_rfl) Try.func5 (by kernel_rfl)
    (of_decide_eq_true (by kernel_rfl)) (by unfold Func.isWrapper; first | (rw [if_pos (by decide +kernel)]; kernel_rfl) | (rw [if_neg (by decide +kernel)]; exact ⟨rfl, rfl⟩))
    (fun os started H enc _ => lifted os started H enc)
theorem proved : Rows.QuorumMeetSaid := over
#print axioms proved
end Go.Proofs.Ytpnkedgppbcnhaa.quorumMeet
namespace Go.Proofs.Ytpnkedgppbcnhaa
/-- The row, under a short name, for the claim. -/
theorem quorumMeet_holds : Rows.QuorumMeetSaid := quorumMeet.proved
end Go.Proofs.Ytpnkedgppbcnhaa
