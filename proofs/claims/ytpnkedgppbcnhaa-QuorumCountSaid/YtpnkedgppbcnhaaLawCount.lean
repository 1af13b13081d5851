/- Of any numbers as many are counted as are the same; all unlike ones together are all: for every input the law returns true, and the input reads as it did. No condition. -/
import Derived.Test.YtpnkedgppbcnhaaCountA
import Derived.WalkKit
import Derived.ProofKit
import Derived.OpenShut
import Derived.ChangeOld
import Derived.Carry
import Derived.SizedLaws
set_option linter.unusedSimpArgs false
set_option linter.unusedVariables false
namespace Go.Proofs.Ytpnkedgppbcnhaa.quorumCount
open Go.ChangeShapes Go.WideShapes Go.ChangeAt Go.RowKit Go.Proofs.Ytpnkedgppbcnhaa.Am
theorem own : ownKnob Try.prog.godebug = none := by kernel_rfl
theorem laidOut : laidOutB Try.prog = true := by kernel_rfl
theorem envOk0 : EnvOK Try.prog E0 := mkEnv_ok (by kernel_rfl) (by kernel_rfl)
theorem envOk : EnvOK Try.prog E := ⟨envOk0.ty, envOk0.fn, envOk0.mixed⟩

theorem wrapi {m : Nat} (h : m ≤ 1000000) : IntKind.i64.wrap ((m : Int) + 1) = (m : Int) + 1 := by
  have := i64_small (m := m + 1) (by omega)
  simpa using this
theorem wrapa {a b : Nat} (ha : a ≤ 1000000) (hb : b ≤ 1000000) : IntKind.i64.wrap ((a : Int) + (b : Int)) = (a : Int) + (b : Int) := by
  have := i64_small (m := a + b) (by omega)
  simpa using this
theorem wrap8 {m : Nat} (h : m < 256) : IntKind.u8.wrap (m : Int) = (m : Int) := by
  have e : IntKind.u8.wrap (m : Int) = (m : Int) % 256 := by
    unfold IntKind.wrap
    simp [IntKind.bits, IntKind.signed]
  rw [e]; omega

theorem cnt_le (f : Nat → Nat → AV) (off : Nat) (x : Int) : ∀ n, cnt f off x n ≤ n
  | 0 => Nat.le_refl _
  | n + 1 => by
    have := cnt_le f off x n
    simp only [cnt]
    split <;> omega
theorem cnt_shift (f : Nat → Nat → AV) (off : Nat) (x : Int) : ∀ n, cnt (fun i j => f (off + i) j) 0 x n = cnt f off x n
  | 0 => rfl
  | n + 1 => by
    simp only [cnt, Nat.zero_add]
    rw [cnt_shift f off x n]

/-! ### The function -/
def InvC (f : Nat → Nat → AV) (x : Int) (n : Nat) (s : Nat × Nat) : Prop := n ≤ 1000 ∧ s.1 ≤ n ∧ s.2 = cnt f 0 x s.1
theorem stepC (W : World) (k n : Nat) (x : Int) (f : Nat → Nat → AV) (s : Nat × Nat) (hI : InvC f x n s) (a : Act) (w : World) (hC : AtO W (LC s.1 s.2 n x) [some (arr n f)] none a w) :
    bodyC.wpIn (fen none) k Try.prog (fun e a' w' => (e = .normal ∧ ∃ s', InvC f x n s' ∧ n - s'.1 < n - s.1 ∧ AtO W (LC s'.1 s'.2 n x) [some (arr n f)] none a' w') ∨
      (e ≠ .normal ∧ (e = .exit 0 ∧ AtO W (LC n (cnt f 0 x n) n x) [some (arr n f)] none a' w'))) a w := by
  obtain ⟨i, c⟩ := s
  obtain ⟨hn, hin, hc⟩ := hI
  simp only at hin hc hC
  obtain ⟨o, hA⟩ := hC
  have hle := cnt_le f 0 x i
  have wi := wrapi (m := i) (by omega)
  have wc := wrapi (m := c) (by omega)
  by_cases hi : i < n
  · by_cases hx : (f i 0).toI = x
    · refine wpIn_mono (path_at envOk0 mkEnv_intr (c0_is o i c n x f) ?_ hA) fun e a' w' hq => .inl ⟨hq.1, ⟨i + 1, c + 1⟩, ?_, ?_, hq.2⟩
      · repeat' (refine And.intro ?_ ?_)
        all_goals first | exact trivial | (simp [wi, wc, hi, hx, capP, blt_iff]; done) | (simp; omega)
      · refine ⟨hn, by simp only []; omega, ?_⟩
        simp only [cnt, Nat.zero_add, hx, if_true]; omega
      · show n - (i + 1) < n - i; omega
    · refine wpIn_mono (path_at envOk0 mkEnv_intr (c1_is o i c n x f) ?_ hA) fun e a' w' hq => .inl ⟨hq.1, ⟨i + 1, c⟩, ?_, ?_, hq.2⟩
      · repeat' (refine And.intro ?_ ?_)
        all_goals first | exact trivial | (simp [wi, wc, hi, hx, capP, blt_iff]; done) | (simp; omega)
      · refine ⟨hn, by simp only []; omega, ?_⟩
        simp only [cnt, Nat.zero_add, hx, if_false]; omega
      · show n - (i + 1) < n - i; omega
  · have he : i = n := by omega
    subst he
    refine wpIn_mono (path_at envOk0 mkEnv_intr (cx_is o i c i x f) ?_ hA) fun e a' w' hq => .inr ⟨by rw [hq.1]; simp [Ex.out], hq.1, ?_⟩
    · repeat' (refine And.intro ?_ ?_)
      all_goals first | exact trivial | (simp [capP]; done) | (simp; omega)
    · have := hq.2
      rw [hc] at this
      exact this

theorem csC_eq : csC = preC ++ Code.block 0 (.loop bodyC) :: postC := by kernel_rfl
theorem fC_some : (E0.fn.get 20).isSome = true := by kernel_rfl
theorem fC_body : ((E0.fn.get 20).bind fun fn => fn.body).isSome = true := by kernel_rfl
theorem fC_tmps : (E0.fn.get 20).map (fun fn => fn.ntmps) = some 20 := by kernel_rfl
theorem fC_res : (E0.fn.get 20).map (fun fn => fn.results.toList) = some [.tmp 4] := by kernel_rfl
theorem postC_run (W : World) (k i c n : Nat) (x : Int) (f : Nat → Nat → AV) {a : Act} {w : World} (hC : AtO W (LC i c n x) [some (arr n f)] none a w) : lwp (fen none) k Try.prog postC (fun x a' w' => x = Exit.ret ∧ AtO W (LC9 c) [] none a' w') a w := by
  obtain ⟨o, hA⟩ := hC
  exact lwp_path envOk0 mkEnv_intr (cz_is o i c n x f) ⟨rfl, trivial⟩ hA
theorem preC_run (W : World) (k n : Nat) (x : Int) (f : Nat → Nat → AV) {a : Act} {w : World} (hA : At W { tmps := Tr.ofList [.tsl 0 0 n n 1 true, .int .u8 x] 0 .nil, size := 20, marks := [], rnd := none } (stC [some (arr n f)]) none a w) :
    lwp (fen none) k Try.prog preC (fun e a' w' => e = Exit.normal ∧ AtO W (LC 0 0 n x) [some (arr n f)] none a' w') a w := by
  refine lwp_path envOk0 mkEnv_intr (cp_is n x f) ?_ hA
  repeat' (refine And.intro ?_ ?_)
  all_goals first | exact trivial | (simp [capP]; done) | (simp; omega)

theorem count_calls (W : World) (k n : Nat) (x : Int) (f : Nat → Nat → AV) (hn : n ≤ 1000) {φ : Phi} {us : List Value} (hR : Rel W φ (stC [some (arr n f)]).get (stC [some (arr n f)]).next W) (hv : VRL φ [.tsl 0 0 n n 1 true, .int .u8 x] us) :
    CallsIn (fen none) k Try.prog 20 us.toArray W fun e W' => e = .returned (.int .i64 (cnt f 0 x n)) ∧ Below W.heap.size W W' := by
  obtain ⟨fn, hfn⟩ := Option.isSome_iff_exists.1 fC_some
  have hb0 := fC_body
  have ht := fC_tmps
  have hr := fC_res
  rw [hfn] at hb0 ht hr
  simp only [Option.bind_some, Option.map_some, Option.some.injEq] at hb0 ht hr
  obtain ⟨c, hb⟩ := Option.isSome_iff_exists.1 hb0
  have hcs : flat c = csC := by simp only [csC, codeOf, hfn, hb]
  refine calls_at envOk0 hfn hb (by rw [ht]; simp) hR hv fun a hA => ?_
  rw [ht] at hA
  refine lwp_flat c _ a W ?_
  rw [hcs, csC_eq]
  refine lwp_join preC a W (lwp_mono (fun e a1 w1 hq => ?_) _ _ _ (preC_run W k n x f hA))
  obtain ⟨rfl, hA1⟩ := hq
  show (Code.block 0 (.loop bodyC)).wpIn _ _ _ _ a1 w1
  refine wpIn_block (loop_at (fun s : Nat × Nat => AtO W (LC s.1 s.2 n x) [some (arr n f)] none) (InvC f x n) (fun s => n - s.1) (fun s hI a2 w2 hC => ?_) ⟨0, 0⟩ ⟨hn, Nat.zero_le _, rfl⟩ a1 w1 hA1)
  refine wpIn_mono (stepC W k n x f s hI a2 w2 hC) fun e a3 w3 hq => ?_
  rcases hq with hq | ⟨hne, rfl, hA3⟩
  · exact .inl hq
  · refine .inr ⟨hne, ?_⟩
    show Exit.inBlock 0 _ (.exit 0) a3 w3
    simp only [Exit.inBlock, if_true]
    refine lwp_mono (fun e a' w' hq => ?_) _ _ _ (postC_run W k n _ n x f hA3)
    obtain ⟨rfl, o, hat⟩ := hq
    refine ⟨.inr rfl, frO (LC9 (cnt f 0 x n)) o, stC [], stC [], .int .i64 (cnt f 0 x n), hat, rfl, ?_, fun φ' u w'' h1 h2 => ?_⟩
    · rw [hr]; rfl
    · simp only [VR] at h1
      exact ⟨by rw [h1], h2.below⟩

theorem intrOk (w0 : World) : IntrOK Try.prog w0 E := by
  intro f g args σ v σ' obl hg hr ho
  have hg : cond (Nat.beq f 20) (some cntI) none = some g := hg
  cases hf : Nat.beq f 20 with
  | false => rw [hf] at hg; cases hg
  | true =>
    rw [hf] at hg
    simp only [cond_true, Option.some.injEq] at hg
    subst hg
    have := Nat.eq_of_beq_eq_true hf; subst this
    have hr : cntRun args σ = some (v, σ', obl) := hr
    unfold cntRun at hr
    split at hr
    · rename_i id off len cap es hid x hx_
      split at hr
      · rename_i sh n f rw_ hgi
        cases hb : (shBeq [.int .u8] sh && Nat.beq es 1) with
        | false => rw [hb] at hr; cases hr
        | true =>
          rw [hb] at hr
          simp only [cond_true, Option.some.injEq, Prod.mk.injEq] at hr
          obtain ⟨rfl, rfl, rfl⟩ := hr
          simp only [Bool.and_eq_true] at hb
          have := shBeq_eq hb.1; subst this
          have := Nat.eq_of_beq_eq_true hb.2; subst this
          simp only [List.all_cons, List.all_nil, Bool.and_true, Bool.and_eq_true] at ho
          have h1 := Nat.le_of_ble_eq_true ho.1
          have h2 := Nat.le_of_ble_eq_true ho.2
          obtain ⟨fn, hfn⟩ := Option.isSome_iff_exists.1 fC_some
          have hb0 := fC_body
          rw [hfn] at hb0
          obtain ⟨c, hbd⟩ := Option.isSome_iff_exists.1 hb0
          have hbd : fn.body = some c := hbd
          refine callOK_reads envOk0 hfn (by rw [hbd]; rfl) fun k φ w us hR hus => ?_
          simp only [VRL] at hus
          obtain ⟨u0, us1, rfl, v0, u1, us2, rfl, v1, rfl⟩ := hus
          obtain ⟨l, q1, q2, q3⟩ := ro_of_tsl hR hgi v0 rfl h1
          have hR1 := ro_add (ro_none w) (fun o h => by simp at h) q1 (o := arr len (fun i j => f (off + i) j)) rfl q2
          refine CallsIn.mono (count_calls w k len x (fun i j => f (off + i) j) h2 hR1 (VRL.cons (q3 _ 0 (upd_same _ _ _)) (VRL.cons (by simpa only [VR] using v1) VRL.nil))) fun e W' he => ?_
          obtain ⟨rfl, hB⟩ := he
          exact ⟨_, rfl, fun φ => by simp only [VR]; rw [cnt_shift], hB⟩
      · cases hr
    · cases hr

/-! ### The law -/
def sumTo (f : Nat → Nat → AV) (n : Nat) : Nat → Nat
  | 0 => 0
  | y + 1 => sumTo f n y + cnt f 0 (y : Int) n
theorem sum_add (f : Nat → Nat → AV) (n : Nat) : ∀ y, sumTo f (n + 1) y = sumTo f n y + (if 0 ≤ (f n 0).toI ∧ (f n 0).toI < (y : Int) then 1 else 0)
  | 0 => by simp only [sumTo]; rw [if_neg (by omega)]
  | y + 1 => by
    simp only [sumTo, cnt, Nat.zero_add]
    rw [sum_add f n y]
    by_cases h1 : (f n 0).toI = (y : Int)
    · rw [if_pos h1, if_neg (by omega), if_pos (by omega)]; omega
    · rw [if_neg h1]
      by_cases h2 : 0 ≤ (f n 0).toI ∧ (f n 0).toI < (y : Int)
      · rw [if_pos h2, if_pos (by omega)]; omega
      · rw [if_neg h2, if_neg (by omega)]; omega
theorem sum_zero (f : Nat → Nat → AV) : ∀ y, sumTo f 0 y = 0
  | 0 => rfl
  | y + 1 => by simp only [sumTo, cnt]; rw [sum_zero f y]
theorem sum_all (f : Nat → Nat → AV) : ∀ n, (∀ i, i < n → 0 ≤ (f i 0).toI ∧ (f i 0).toI ≤ 255) → sumTo f n 256 = n
  | 0, _ => sum_zero f 256
  | n + 1, h => by
    rw [sum_add, sum_all f n (fun i hi => h i (by omega))]
    have := h n (by omega)
    rw [if_pos (by omega)]
theorem sum_le (f : Nat → Nat → AV) (n : Nat) : ∀ y, sumTo f n y ≤ y * n
  | 0 => Nat.zero_le _
  | y + 1 => by
    have h1 := sum_le f n y
    have h2 := cnt_le f 0 (y : Int) n
    simp only [sumTo, Nat.add_mul]; omega

theorem step1 (W : World) (k n : Nat) (x : Int) (f : Nat → Nat → AV) (s : Nat × Nat) (hI : InvC f x n s) (a : Act) (w : World) (hC : AtO W (L1 s.1 s.2 n x) [some (arr n f)] none a w) :
    body1.wpIn (fen none) k Try.prog (fun e a' w' => (e = .normal ∧ ∃ s', InvC f x n s' ∧ n - s'.1 < n - s.1 ∧ AtO W (L1 s'.1 s'.2 n x) [some (arr n f)] none a' w') ∨
      (e ≠ .normal ∧ (e = .exit 0 ∧ AtO W (L1 n (cnt f 0 x n) n x) [some (arr n f)] none a' w'))) a w := by
  obtain ⟨i, c⟩ := s
  obtain ⟨hn, hin, hc⟩ := hI
  simp only at hin hc hC
  obtain ⟨o, hA⟩ := hC
  have hle := cnt_le f 0 x i
  have wi := wrapi (m := i) (by omega)
  have wc := wrapi (m := c) (by omega)
  by_cases hi : i < n
  · by_cases hx : (f i 0).toI = x
    · refine wpIn_mono (path_at envOk (intrOk W) (a0_is o i c n x f) ?_ hA) fun e a' w' hq => .inl ⟨hq.1, ⟨i + 1, c + 1⟩, ?_, ?_, hq.2⟩
      · repeat' (refine And.intro ?_ ?_)
        all_goals first | exact trivial | (simp [wi, wc, hi, hx, capP, blt_iff]; done) | (simp; omega)
      · refine ⟨hn, by simp only []; omega, ?_⟩
        simp only [cnt, Nat.zero_add, hx, if_true]; omega
      · show n - (i + 1) < n - i; omega
    · refine wpIn_mono (path_at envOk (intrOk W) (a1_is o i c n x f) ?_ hA) fun e a' w' hq => .inl ⟨hq.1, ⟨i + 1, c⟩, ?_, ?_, hq.2⟩
      · repeat' (refine And.intro ?_ ?_)
        all_goals first | exact trivial | (simp [wi, wc, hi, hx, capP, blt_iff]; done) | (simp; omega)
      · refine ⟨hn, by simp only []; omega, ?_⟩
        simp only [cnt, Nat.zero_add, hx, if_false]; omega
      · show n - (i + 1) < n - i; omega
  · have he : i = n := by omega
    subst he
    refine wpIn_mono (path_at envOk (intrOk W) (ax_is o i c i x f) ?_ hA) fun e a' w' hq => .inr ⟨by rw [hq.1]; simp [Ex.out], hq.1, ?_⟩
    · repeat' (refine And.intro ?_ ?_)
      all_goals first | exact trivial | (simp [capP]; done) | (simp; omega)
    · have := hq.2
      rw [hc] at this
      exact this

def Inv2 (f : Nat → Nat → AV) (n : Nat) (s : Nat × Nat) : Prop := n ≤ 1000 ∧ s.1 ≤ 256 ∧ s.2 = sumTo f n s.1
theorem step2 (W : World) (k k1 n : Nat) (x : Int) (f : Nat → Nat → AV) (s : Nat × Nat) (hI : Inv2 f n s) (a : Act) (w : World) (hC : AtO W (L2 s.1 s.2 k1 n x) [some (arr n f)] none a w) :
    body2.wpIn (fen none) k Try.prog (fun e a' w' => (e = .normal ∧ ∃ s', Inv2 f n s' ∧ 256 - s'.1 < 256 - s.1 ∧ AtO W (L2 s'.1 s'.2 k1 n x) [some (arr n f)] none a' w') ∨
      (e ≠ .normal ∧ (e = .exit 2 ∧ AtO W (L2 256 (sumTo f n 256) k1 n x) [some (arr n f)] none a' w'))) a w := by
  obtain ⟨y, all⟩ := s
  obtain ⟨hn, hin, hc⟩ := hI
  simp only at hin hc hC
  obtain ⟨o, hA⟩ := hC
  have hle := sum_le f n y
  have hcl := cnt_le f 0 (y : Int) n
  have hb : y * n ≤ 256 * 1000 := Nat.mul_le_mul hin hn
  have wi := wrapi (m := y) (by omega)
  have wc := wrapa (a := all) (b := cnt f 0 (y : Int) n) (by omega) (by omega)
  by_cases hi : y < 256
  · have w8 := wrap8 hi
    refine wpIn_mono (path_at envOk (intrOk W) (b0_is o y all k1 n x f) ?_ hA) fun e a' w' hq => .inl ⟨hq.1, ⟨y + 1, all + cnt f 0 (y : Int) n⟩, ?_, ?_, hq.2⟩
    · repeat' (refine And.intro ?_ ?_)
      all_goals first | exact trivial | (simp [wi, w8, wc, hi, hn, capP, ble_iff]; done) | (simp; omega)
    · refine ⟨hn, by simp only []; omega, ?_⟩
      simp only [sumTo]; omega
    · show 256 - (y + 1) < 256 - y; omega
  · have he : y = 256 := by omega
    subst he
    refine wpIn_mono (path_at envOk (intrOk W) (bx_is o 256 all k1 n x f) ?_ hA) fun e a' w' hq => .inr ⟨by rw [hq.1]; simp [Ex.out], hq.1, ?_⟩
    · repeat' (refine And.intro ?_ ?_)
      all_goals first | exact trivial | (simp [capP]; done) | (simp; omega)
    · have := hq.2
      rw [hc] at this
      exact this

theorem cs_eq : cs = pre ++ Code.block 0 (.loop body1) :: (mid ++ Code.block 2 (.loop body2) :: post) := by kernel_rfl
theorem f_some : (E.fn.get 6).isSome = true := by kernel_rfl
theorem f_body : ((E.fn.get 6).bind fun fn => fn.body).isSome = true := by kernel_rfl
theorem f_tmps : (E.fn.get 6).map (fun fn => fn.ntmps) = some 50 := by kernel_rfl
theorem f_res : (E.fn.get 6).map (fun fn => fn.results.toList) = some [.tmp 4] := by kernel_rfl
theorem nil_ (x : Int) : resB E0 100000 6 [.nilSlice, .int .u8 x] (stC []) = true := by kernel_rfl
theorem gap_ (x : Int) : resB E0 100000 6 [.tsl 0 0 0 0 1 true, .int .u8 x] (stC [none]) = true := by kernel_rfl
theorem post_run (W : World) (k y all k1 n : Nat) (x : Int) (f : Nat → Nat → AV) (hn : n ≤ 1000) (h1 : cnt f 0 x n = k1) (h2 : all = n) {a : Act} {w : World} (hC : AtO W (L2 y all k1 n x) [some (arr n f)] none a w) :
    lwp (fen none) k Try.prog post (fun x a' w' => x = Exit.ret ∧ AtO W L9 [] none a' w') a w := by
  obtain ⟨o, hA⟩ := hC
  refine lwp_path envOk (intrOk W) (e0_is o y all k1 n x f) ?_ hA
  repeat' (refine And.intro ?_ ?_)
  all_goals first | exact trivial | (simp [h1, h2, hn, ble_iff]; done) | (simp; omega)
theorem mid_run (W : World) (k i k1 n : Nat) (x : Int) (f : Nat → Nat → AV) {a : Act} {w : World} (hC : AtO W (L1 i k1 n x) [some (arr n f)] none a w) :
    lwp (fen none) k Try.prog mid (fun e a' w' => e = Exit.normal ∧ AtO W (L2 0 0 k1 n x) [some (arr n f)] none a' w') a w := by
  obtain ⟨o, hA⟩ := hC
  refine lwp_path envOk (intrOk W) (m0_is o i k1 n x f) ?_ hA
  repeat' (refine And.intro ?_ ?_)
  all_goals first | exact trivial | (simp [capP]; done) | (simp; omega)
theorem pre0_run (W : World) (k n : Nat) (x : Int) (f : Nat → Nat → AV) (hn : ¬ n ≤ 1000) {a : Act} {w : World} (hA : At W { tmps := Tr.ofList [.tsl 0 0 n n 1 true, .int .u8 x] 0 .nil, size := 50, marks := [], rnd := none } (stC [some (arr n f)]) none a w) :
    lwp (fen none) k Try.prog pre (fun e a' w' => e = Exit.ret ∧ AtO W L9 [] none a' w') a w := by
  refine lwp_path envOk (intrOk W) (p0_is n x f) ?_ hA
  repeat' (refine And.intro ?_ ?_)
  all_goals first | exact trivial | (simp; done) | (simp; omega)
theorem pre1_run (W : World) (k n : Nat) (x : Int) (f : Nat → Nat → AV) (hn : n ≤ 1000) {a : Act} {w : World} (hA : At W { tmps := Tr.ofList [.tsl 0 0 n n 1 true, .int .u8 x] 0 .nil, size := 50, marks := [], rnd := none } (stC [some (arr n f)]) none a w) :
    lwp (fen none) k Try.prog pre (fun e a' w' => e = Exit.normal ∧ AtO W (L1 0 0 n x) [some (arr n f)] none a' w') a w := by
  refine lwp_path envOk (intrOk W) (p1_is n x f) ?_ hA
  repeat' (refine And.intro ?_ ?_)
  all_goals first | exact trivial | (simp [capP]; done) | (simp; omega)

theorem rows (W : World) (n : Nat) (x : Int) (f : Nat → Nat → AV) (hf : ∀ i, i < n → 0 ≤ (f i 0).toI ∧ (f i 0).toI ≤ 255) {φ : Phi} {us : List Value} (hR : Rel W φ (stC [some (arr n f)]).get (stC [some (arr n f)]).next W) (hv : VRL φ [.tsl 0 0 n n 1 true, .int .u8 x] us) :
    Calls Try.prog 6 us.toArray W fun e W' => e = .returned (.bool true) ∧ Below W.heap.size W W' := by
  obtain ⟨fn, hfn⟩ := Option.isSome_iff_exists.1 f_some
  have hb0 := f_body
  have ht := f_tmps
  have hr := f_res
  rw [hfn] at hb0 ht hr
  simp only [Option.bind_some, Option.map_some, Option.some.injEq] at hb0 ht hr
  obtain ⟨c, hb⟩ := Option.isSome_iff_exists.1 hb0
  have hcs : flat c = cs := by
    have hfn' : E0.fn.get 6 = some fn := hfn
    simp only [cs, codeOf, hfn', hb]
  refine callsIn_wide.1 (CallsIn.mono (F := Fence.wide) (n := 0) (calls_at (k := 0) envOk hfn hb (by rw [ht]; simp) hR hv
    (R := fun e W' => e = .returned (.bool true) ∧ Below W.heap.size W W') fun a hA => ?_) fun e W' he => he)
  rw [ht] at hA
  refine lwp_flat c _ a W ?_
  rw [hcs, cs_eq]
  have fin : ∀ x a' w', (x = Exit.ret ∧ AtO W L9 [] none a' w') → (x = Exit.normal ∨ x = Exit.ret) ∧ ∃ fr' σ' σ2 v, At W fr' σ' none a' w' ∧ amarks fr'.marks σ' = some σ2 ∧
      aresults E fr' σ2.get fn.results.toList = some v ∧ ∀ φ' u w'', VR φ' v u → Rel W φ' σ2.get σ2.next w'' → (Ending.returned u = .returned (.bool true) ∧ Below W.heap.size W w'') := by
    intro x a' w' ⟨hx, o, hat⟩
    refine ⟨.inr hx, frO L9 o, stC [], stC [], .bool true, hat, rfl, ?_, fun φ' u w'' h1 h2 => ?_⟩
    · rw [hr]; rfl
    · simp only [VR] at h1
      exact ⟨by rw [h1], h2.below⟩
  refine lwp_join pre a W ?_
  by_cases hn : n ≤ 1000
  · refine lwp_mono (fun e a1 w1 hq => ?_) _ _ _ (pre1_run W 0 n x f hn hA)
    obtain ⟨rfl, hA1⟩ := hq
    show (Code.block 0 (.loop body1)).wpIn _ _ _ _ a1 w1
    refine wpIn_block (loop_at (fun s : Nat × Nat => AtO W (L1 s.1 s.2 n x) [some (arr n f)] none) (InvC f x n) (fun s => n - s.1) (fun s hI a2 w2 hC => ?_) ⟨0, 0⟩ ⟨hn, Nat.zero_le _, rfl⟩ a1 w1 hA1)
    refine wpIn_mono (step1 W 0 n x f s hI a2 w2 hC) fun e a3 w3 hq => ?_
    rcases hq with hq | ⟨hne, rfl, hA3⟩
    · exact .inl hq
    · refine .inr ⟨hne, ?_⟩
      show Exit.inBlock 0 _ (.exit 0) a3 w3
      simp only [Exit.inBlock, if_true]
      refine lwp_join mid a3 w3 (lwp_mono (fun e a4 w4 hq => ?_) _ _ _ (mid_run W 0 n _ n x f hA3))
      obtain ⟨rfl, hA4⟩ := hq
      show (Code.block 2 (.loop body2)).wpIn _ _ _ _ a4 w4
      refine wpIn_block (loop_at (fun s : Nat × Nat => AtO W (L2 s.1 s.2 (cnt f 0 x n) n x) [some (arr n f)] none) (Inv2 f n) (fun s => 256 - s.1) (fun s hI a5 w5 hC => ?_) ⟨0, 0⟩ ⟨hn, Nat.zero_le _, rfl⟩ a4 w4 hA4)
      refine wpIn_mono (step2 W 0 _ n x f s hI a5 w5 hC) fun e a6 w6 hq => ?_
      rcases hq with hq | ⟨hne, rfl, hA6⟩
      · exact .inl hq
      · refine .inr ⟨hne, ?_⟩
        show Exit.inBlock 2 _ (.exit 2) a6 w6
        simp only [Exit.inBlock, if_true]
        exact lwp_mono fin _ _ _ (post_run W 0 256 _ _ n x f hn rfl (sum_all f n hf) hA6)
  · refine lwp_mono (fun e a1 w1 hq => ?_) _ _ _ (pre0_run W 0 n x f hn hA)
    have := fin e a1 w1 hq
    have he := hq.1
    subst he
    exact this

theorem row_u8 {H : Type} {enc : TypeId × Value → H} {W : World} {sp : Nat → Bool} {held : Bool} (cs : List Value) (n : Nat) (y : DataW H × List MemPlace) (h : DataW.trod enc Try.prog W 0 sp held n 5 cs = some y) :
    ∃ r : Nat → AV, (∀ φ, VRL φ (trow r [.int .u8] 0) cs) ∧ (0 ≤ (r 0).toI ∧ (r 0).toI ≤ 255) := by
  obtain ⟨m, q1, _, q3⟩ := DataW.trod_int Try.underlying5 h
  refine ⟨fun _ => .int .u8 m, fun φ => by rw [q1]; exact VRL.cons (by simp only [view, AV.toI, VR]) VRL.nil, ?_⟩
  simp only [Lit.wf, Bool.and_eq_true, decide_eq_true_eq] at q3
  simp only [AV.toI]
  have h1 : IntKind.u8.min = 0 := by decide
  have h2 : IntKind.u8.max = 255 := by decide
  rw [h1, h2] at q3
  exact q3

set_option maxRecDepth 100000 in
theorem lifted (os : Os) (started : os.Started) (H : Type) (enc : TypeId × Value → H) :
    ReturnsInHanded {} Try.checked os 6 .any (Rows.quorumCountSpec.pre6 enc Try.prog Try.f6 Rows.quorumCountRow.domain false) (Rows.quorumCountSpec.post enc Try.prog Try.f6 false true false false) := by
  refine returnsInHanded_of_change_sized (C := Try.checked) own started (by kernel_rfl) Try.func6
    (ChangeSpec.witness6 (enc := enc) (C := Try.checked) false ⟨#[], #[.slice none 0 0, .int .u8 0], []⟩ 8 (by kernel_rfl) (by kernel_rfl) (by kernel_rfl) (by kernel_rfl)) ?_
  intro W base args ds gs before hval0 hW hcnd hsz0 _
  have hval : ∀ (j : Nat) t v, Try.f6.params[j]? = some t → args[j]? = some v → Value.okWide Try.prog W .any base t v := hval0
  have hW' := hW
  obtain ⟨p, q, hA0, hV, rfl, hfz, hnd⟩ := hW
  have hA : DataW.TrodAll enc Try.prog W 0 (fun _ => true) true Try.f6.params.toList args.toList ds p := hA0
  rw [Try.params6] at hA hval
  obtain ⟨v0, vs0, d0, ds0, p0, q0, hargs, rfl, rfl, h0, r0⟩ := trodAll_cons hA
  obtain ⟨v1, vs1, d1, ds1, p1, q1, rfl, rfl, rfl, h1, r1⟩ := trodAll_cons r0
  obtain ⟨rfl, rfl, rfl⟩ := trodAll_nil r1
  obtain rfl : args = #[v0, v1] := by cases args; simp_all
  obtain ⟨rfl, rfl⟩ := trodVars_none hV
  obtain ⟨a0, len0, cap0, rfl⟩ := okWide_slice Try.underlying39 (hval 0 39 v0 rfl rfl)
  obtain ⟨x, rfl⟩ := okWide_int Try.underlying5 (hval 1 5 v1 rfl rfl)
  have k0 := h0
  have k1 := h1
  have lt0 : ∀ y ∈ p0, y.block < W.heap.size := by obtain ⟨m, hm⟩ := k0; exact DataW.trod_lt m _ _ _ hm
  have lt1 : ∀ y ∈ p1, y.block < W.heap.size := by obtain ⟨m, hm⟩ := k1; exact DataW.trod_lt m _ _ _ hm
  have walk : Calls Try.prog 6 #[.slice a0 len0 cap0, .int .u8 x] W fun e W' => e = .returned (.bool true) ∧ Below W.heap.size W W' := by
    obtain ⟨fuel, hv⟩ := h0
    have hv : DataW.trod enc Try.prog W 0 (fun _ => true) true fuel 39 [.slice a0 len0 cap0] = some (d0, p0) := hv
    rcases open_rowsR (sh := [.int .u8]) (fun r => 0 ≤ (r 0).toI ∧ (r 0).toI ≤ 255) Try.underlying39 (by kernel_rfl) (by decide) (fun _ => rfl) (fun cs n y h => row_u8 cs n y h) hv with h | ⟨a, h⟩ | ⟨l, n, cap, f, h1, h2, h3, h4, h, h5, h6, h7⟩
    · rw [h]
      exact law_run envOk0 mkEnv_intr (us := [.slice none 0 0, .int .u8 x]) (ro_none W) (VRL.cons (by simp only [VR]) (VRL.cons (by simp only [VR]) VRL.nil)) (nil_ x)
    · rw [h]
      refine law_run envOk0 mkEnv_intr (us := [.slice (some a) 0 0, .int .u8 x]) (ro_gap (ro_none W) ⟨0, 0, 0⟩) (VRL.cons ?_ (VRL.cons (by simp only [VR]) VRL.nil)) (gap_ x)
      simp only [VR]
      exact ⟨_, a, 0, upd_same _ _ _, rfl, Nat.le_refl _, Nat.le_refl _, (fun _ => rfl), (fun h => absurd h (by omega)), (fun h => absurd h (by omega))⟩
    · rw [h]
      exact rows W n x f h7 (ro_add (ro_none W) (fun o h => by simp at h) h1 (o := arr n f) rfl h6) (us := [_, _]) (VRL.cons (VR_rows (upd_same _ _ _) h3 h5) (VRL.cons (by simp only [VR]) VRL.nil))
  refine walk.mono fun e W' ⟨he, bel⟩ => ?_
  subst he
  exact ⟨_, rfl, _, _, _, [], _, [], hW', trodAll_mk1 (shut_bool Try.underlying4 _), (trodAll_cons_mk (Below.trod laidOut (by kernel_rfl) (of_decide_eq_true (by kernel_rfl)) k0 bel lt0) (trodAll_cons_mk (Below.trod laidOut (by kernel_rfl) (of_decide_eq_true (by kernel_rfl)) k1 bel lt1) trodAll_mk0)), rfl, bel.frame _, fun h => by cases h⟩
theorem over : Rows.quorumCountRow.holds Try.pinned (OpenSpec.ofChange Rows.quorumCountSpec) :=
  OpenClaim.holds_of_wide 6 Try.f6 rfl rfl rfl rfl rfl rfl rfl ⟨rfl, rfl, rfl, rfl, rfl⟩ rfl rfl rfl rfl rfl (by kernel_rfl) Try.func6 (by kernel_rfl)
    (of_decide_eq_true (by kernel_rfl)) (by unfold Func.isWrapper; first | (rw [if_pos (by decide +kernel)]; kernel_rfl) | (rw [if_neg (by decide +kernel)]; exact ⟨rfl, rfl⟩))
    (fun os started H enc _ => lifted os started H enc)
theorem proved : Rows.QuorumCountSaid := over
#print axioms proved
end Go.Proofs.Ytpnkedgppbcnhaa.quorumCount
namespace Go.Proofs.Ytpnkedgppbcnhaa
/-- The row, under a short name, for the claim. -/
theorem quorumCount_holds : Rows.QuorumCountSaid := quorumCount.proved
end Go.Proofs.Ytpnkedgppbcnhaa
