/- What was put into a bag, but not lost, and what was doubled, was taken, cleared, or is there: for every input the law returns true, and the input reads as it did. No condition. -/
import Derived.Test.YtjoojpnbhmhalaaBagA
import Derived.WalkKit
import Derived.ProofKit
import Derived.OpenShut
import Derived.ChangeOld
import Derived.Carry
import Derived.SizedLaws
set_option linter.unusedSimpArgs false
set_option linter.unusedVariables false
namespace Go.Proofs.Ytjoojpnbhmhalaa.bagKeeps
open Go.ChangeShapes Go.WideShapes Go.ChangeAt Go.RowKit Go.Proofs.Ytjoojpnbhmhalaa.Am
theorem own : ownKnob Try.prog.godebug = none := by kernel_rfl
theorem laidOut : laidOutB Try.prog = true := by kernel_rfl
theorem envOk : EnvOK Try.prog E := mkEnv_ok (by kernel_rfl) (by kernel_rfl)

theorem wrapi {m : Nat} (h : m ≤ 1000000) : IntKind.i64.wrap ((m : Int) + 1) = (m : Int) + 1 := by
  have := i64_small (m := m + 1) (by omega)
  simpa using this
theorem wrapu {m : Nat} (h : m ≤ 1000000) : IntKind.u64.wrap ((m : Int) + 1) = (m : Int) + 1 := by
  have e : IntKind.u64.wrap ((m : Int) + 1) = ((m : Int) + 1) % 18446744073709551616 := by
    unfold IntKind.wrap
    simp [IntKind.bits, IntKind.signed]
  rw [e]; omega
theorem wrapz {z : Int} (h0 : 0 ≤ z) (h : z ≤ 1000000) : IntKind.i64.wrap (z + 1) = z + 1 := by
  obtain ⟨m, rfl⟩ := Int.eq_ofNat_of_zero_le h0
  exact wrapi (by omega)
theorem wrapa {a b : Nat} (ha : a ≤ 1000000) (hb : b ≤ 1000000) : IntKind.i64.wrap ((a : Int) + (b : Int)) = (a : Int) + (b : Int) := by
  have := i64_small (m := a + b) (by omega)
  simpa using this
theorem wrap0 {a : Nat} (ha : a ≤ 1000000) : IntKind.i64.wrap ((a : Int)) = (a : Int) := i64_small (by omega)

/-- How far the loop is, and what was counted. -/
structure X where
  i : Nat
  inn : Nat
  out : Nat
  lost : Nat
  m : Nat
def Inv (n : Nat) (x : X) : Prop := n ≤ 300 ∧ x.i ≤ n ∧ x.inn = x.out + x.m + x.lost ∧ x.inn ≤ x.i ∧ x.m ≤ 9
def C (W : World) (n : Nat) (f : Nat → Nat → AV) (x : X) (a : Act) (w : World) : Prop :=
  (x.m = 0 ∧ AtO W (L x.i x.inn x.out n) (HZ n f x.lost) none a w) ∨ ∃ g, AtO W (L x.i x.inn x.out n) (HS n f x.lost x.m g) none a w

theorem step (W : World) (k n : Nat) (f : Nat → Nat → AV) (x : X) (hI : Inv n x) (a : Act) (w : World) (hC : C W n f x a w) :
    body.wpIn (fen none) k Try.prog (fun e a' w' => (e = .normal ∧ ∃ x', Inv n x' ∧ n - x'.i < n - x.i ∧ C W n f x' a' w') ∨ (e ≠ .normal ∧ (e = .exit 0 ∧ ∃ x', Inv n x' ∧ C W n f x' a' w'))) a w := by
  obtain ⟨i, inn, out, lost, m⟩ := x
  obtain ⟨hn, hin, hsum, hle, hm⟩ := hI
  simp only at hin hsum hle hm
  have wi := wrapi (m := i) (by omega)
  have wn := wrapi (m := inn) (by omega)
  have wo := wrapi (m := out) (by omega)
  have wl := wrapu (m := lost) (by omega)
  have wm := wrapa (a := out) (b := m) (by omega) (by omega)
  by_cases hi : i < n
  · rcases hC with ⟨hm0, o, hA⟩ | ⟨g, o, hA⟩
    · simp only at hm0
      subst hm0
      have w0 := wrap0 (a := out) (by omega)
      by_cases k0 : (f i 0).toI = 0
      · refine wpIn_mono (path_at envOk mkEnv_intr (z0_is o i inn out n lost f) ?_ hA) fun e a' w' hq => .inl ⟨hq.1, ⟨i + 1, inn + 1, out, lost, 1⟩, ?_, ?_, ?_⟩
        · repeat' (refine And.intro ?_ ?_)
          all_goals first | exact trivial | (simp [wi, wo, wl, wn, wm, hi, hn, Nat.zero_add, Int.toNat_natCast, Nat.succ_eq_add_one, capP, growB, blt_iff, ble_iff, beq_iff, Int.natCast_add, Int.natCast_one, k0, N]; done) | (simp [wi, wo, wl, wn, wm, hi, hn, Nat.zero_add, Int.toNat_natCast, Nat.succ_eq_add_one, capP, growB, blt_iff, ble_iff, beq_iff, Int.natCast_add, Int.natCast_one, k0, N]; omega) | (simp; omega) | omega
        · exact ⟨by omega, by show _ ≤ _; simp only []; omega, by simp only []; omega, by simp only []; omega, by simp only []; omega⟩
        · show n - (i + 1) < n - i; omega
        · exact .inr ⟨_, hq.2⟩
      · by_cases k1 : (f i 0).toI = 1
        · by_cases n0 : (f i 1).toI < 0
          · refine wpIn_mono (path_at envOk mkEnv_intr (z1a_is o i inn out n lost f) ?_ hA) fun e a' w' hq => .inl ⟨hq.1, ⟨i + 1, inn, out, lost, 0⟩, ?_, ?_, ?_⟩
            · repeat' (refine And.intro ?_ ?_)
              all_goals first | exact trivial | (simp [wi, wo, wl, wn, wm, hi, hn, Nat.zero_add, Int.toNat_natCast, Nat.succ_eq_add_one, capP, growB, blt_iff, ble_iff, beq_iff, Int.natCast_add, Int.natCast_one, k0, k1, n0]; done) | (simp [wi, wo, wl, wn, wm, hi, hn, Nat.zero_add, Int.toNat_natCast, Nat.succ_eq_add_one, capP, growB, blt_iff, ble_iff, beq_iff, Int.natCast_add, Int.natCast_one, k0, k1, n0]; omega) | (simp; omega) | omega
            · exact ⟨by omega, by show _ ≤ _; simp only []; omega, by simp only []; omega, by simp only []; omega, by simp only []; omega⟩
            · show n - (i + 1) < n - i; omega
            · exact .inl ⟨rfl, hq.2⟩
          · refine wpIn_mono (path_at envOk mkEnv_intr (z1b_is o i inn out n lost f) ?_ hA) fun e a' w' hq => .inl ⟨hq.1, ⟨i + 1, inn, out, lost, 0⟩, ?_, ?_, ?_⟩
            · repeat' (refine And.intro ?_ ?_)
              all_goals first | exact trivial | (simp [wi, wo, wl, wn, wm, hi, hn, Nat.zero_add, Int.toNat_natCast, Nat.succ_eq_add_one, capP, growB, blt_iff, ble_iff, beq_iff, Int.natCast_add, Int.natCast_one, k0, k1, n0, Int.not_lt.1 n0]; done) | (simp [wi, wo, wl, wn, wm, hi, hn, Nat.zero_add, Int.toNat_natCast, Nat.succ_eq_add_one, capP, growB, blt_iff, ble_iff, beq_iff, Int.natCast_add, Int.natCast_one, k0, k1, n0, Int.not_lt.1 n0]; omega) | (simp; omega) | omega
            · exact ⟨by omega, by show _ ≤ _; simp only []; omega, by simp only []; omega, by simp only []; omega, by simp only []; omega⟩
            · show n - (i + 1) < n - i; omega
            · exact .inl ⟨rfl, hq.2⟩
        · by_cases k2 : (f i 0).toI = 2
          · by_cases n0 : (f i 1).toI < 0
            · refine wpIn_mono (path_at envOk mkEnv_intr (z2a_is o i inn out n lost f) ?_ hA) fun e a' w' hq => .inl ⟨hq.1, ⟨i + 1, inn, out, lost, 0⟩, ?_, ?_, ?_⟩
              · repeat' (refine And.intro ?_ ?_)
                all_goals first | exact trivial | (simp [wi, wo, wl, wn, wm, hi, hn, Nat.zero_add, Int.toNat_natCast, Nat.succ_eq_add_one, capP, growB, blt_iff, ble_iff, beq_iff, Int.natCast_add, Int.natCast_one, k0, k1, k2, n0]; done) | (simp [wi, wo, wl, wn, wm, hi, hn, Nat.zero_add, Int.toNat_natCast, Nat.succ_eq_add_one, capP, growB, blt_iff, ble_iff, beq_iff, Int.natCast_add, Int.natCast_one, k0, k1, k2, n0]; omega) | (simp; omega) | omega
              · exact ⟨by omega, by show _ ≤ _; simp only []; omega, by simp only []; omega, by simp only []; omega, by simp only []; omega⟩
              · show n - (i + 1) < n - i; omega
              · exact .inl ⟨rfl, hq.2⟩
            · refine wpIn_mono (path_at envOk mkEnv_intr (z2b_is o i inn out n lost f) ?_ hA) fun e a' w' hq => .inl ⟨hq.1, ⟨i + 1, inn, out, lost, 0⟩, ?_, ?_, ?_⟩
              · repeat' (refine And.intro ?_ ?_)
                all_goals first | exact trivial | (simp [wi, wo, wl, wn, wm, hi, hn, Nat.zero_add, Int.toNat_natCast, Nat.succ_eq_add_one, capP, growB, blt_iff, ble_iff, beq_iff, Int.natCast_add, Int.natCast_one, k0, k1, k2, n0, Int.not_lt.1 n0]; done) | (simp [wi, wo, wl, wn, wm, hi, hn, Nat.zero_add, Int.toNat_natCast, Nat.succ_eq_add_one, capP, growB, blt_iff, ble_iff, beq_iff, Int.natCast_add, Int.natCast_one, k0, k1, k2, n0, Int.not_lt.1 n0]; omega) | (simp; omega) | omega
              · exact ⟨by omega, by show _ ≤ _; simp only []; omega, by simp only []; omega, by simp only []; omega, by simp only []; omega⟩
              · show n - (i + 1) < n - i; omega
              · exact .inl ⟨rfl, hq.2⟩
          · by_cases k3 : (f i 0).toI = 3
            · refine wpIn_mono (path_at envOk mkEnv_intr (z3_is o i inn out n lost f) ?_ hA) fun e a' w' hq => .inl ⟨hq.1, ⟨i + 1, inn, out, lost, 0⟩, ?_, ?_, ?_⟩
              · repeat' (refine And.intro ?_ ?_)
                all_goals first | exact trivial | (simp [wi, wo, wl, wn, wm, hi, hn, Nat.zero_add, Int.toNat_natCast, Nat.succ_eq_add_one, capP, growB, blt_iff, ble_iff, beq_iff, Int.natCast_add, Int.natCast_one, k0, k1, k2, k3, w0]; done) | (simp [wi, wo, wl, wn, wm, hi, hn, Nat.zero_add, Int.toNat_natCast, Nat.succ_eq_add_one, capP, growB, blt_iff, ble_iff, beq_iff, Int.natCast_add, Int.natCast_one, k0, k1, k2, k3, w0]; omega) | (simp; omega) | omega
              · exact ⟨by omega, by show _ ≤ _; simp only []; omega, by simp only []; omega, by simp only []; omega, by simp only []; omega⟩
              · show n - (i + 1) < n - i; omega
              · exact .inl ⟨rfl, hq.2⟩
            · refine wpIn_mono (path_at envOk mkEnv_intr (z4_is o i inn out n lost f) ?_ hA) fun e a' w' hq => .inl ⟨hq.1, ⟨i + 1, inn, out, lost, 0⟩, ?_, ?_, ?_⟩
              · repeat' (refine And.intro ?_ ?_)
                all_goals first | exact trivial | (simp [wi, wo, wl, wn, wm, hi, hn, Nat.zero_add, Int.toNat_natCast, Nat.succ_eq_add_one, capP, growB, blt_iff, ble_iff, beq_iff, Int.natCast_add, Int.natCast_one, k0, k1, k2, k3]; done) | (simp [wi, wo, wl, wn, wm, hi, hn, Nat.zero_add, Int.toNat_natCast, Nat.succ_eq_add_one, capP, growB, blt_iff, ble_iff, beq_iff, Int.natCast_add, Int.natCast_one, k0, k1, k2, k3]; omega) | (simp; omega) | omega
              · exact ⟨by omega, by show _ ≤ _; simp only []; omega, by simp only []; omega, by simp only []; omega, by simp only []; omega⟩
              · show n - (i + 1) < n - i; omega
              · exact .inl ⟨rfl, hq.2⟩
    · by_cases k0 : (f i 0).toI = 0
      · by_cases m9 : m = 9
        · refine wpIn_mono (path_at envOk mkEnv_intr (s0a_is o i inn out n lost m f g) ?_ hA) fun e a' w' hq => .inl ⟨hq.1, ⟨i + 1, inn + 1, out, lost + 1, m⟩, ?_, ?_, ?_⟩
          · repeat' (refine And.intro ?_ ?_)
            all_goals first | exact trivial | (simp [wi, wo, wl, wn, wm, hi, hn, Nat.zero_add, Int.toNat_natCast, Nat.succ_eq_add_one, capP, growB, blt_iff, ble_iff, beq_iff, Int.natCast_add, Int.natCast_one, k0, m9]; done) | (simp [wi, wo, wl, wn, wm, hi, hn, Nat.zero_add, Int.toNat_natCast, Nat.succ_eq_add_one, capP, growB, blt_iff, ble_iff, beq_iff, Int.natCast_add, Int.natCast_one, k0, m9]; omega) | (simp; omega) | omega
          · exact ⟨by omega, by show _ ≤ _; simp only []; omega, by simp only []; omega, by simp only []; omega, by simp only []; omega⟩
          · show n - (i + 1) < n - i; omega
          · exact .inr ⟨_, hq.2⟩
        · obtain ⟨g', hg'⟩ : ∃ g' : Nat → Nat → AV, (∀ (p_ q_ : Nat), p_ < (m + 1) → (g') p_ q_ = ((fjoin (fun p_ q_ => g (0 + p_) q_) (m) (rowsOf (1) [(.int Go.IntKind.i64 (Go.Proofs.Ytjoojpnbhmhalaa.Am.AV.toI (f (0 + Int.toNat (↑i : Int)) (Nat.succ 0))))] (1)))) p_ q_) := ⟨_, fun _ _ _ => rfl⟩
          refine wpIn_mono (path_at envOk mkEnv_intr (s0b_is o i inn out n lost m f g g') ?_ hA) fun e a' w' hq => .inl ⟨hq.1, ⟨i + 1, inn + 1, out, lost, m + 1⟩, ?_, ?_, ?_⟩
          · repeat' (refine And.intro ?_ ?_)
            all_goals first | exact trivial | exact hg' | (simp [wi, wo, wl, wn, wm, hi, hn, Nat.zero_add, Int.toNat_natCast, Nat.succ_eq_add_one, capP, growB, blt_iff, ble_iff, beq_iff, Int.natCast_add, Int.natCast_one, k0, m9]; done) | (simp [wi, wo, wl, wn, wm, hi, hn, Nat.zero_add, Int.toNat_natCast, Nat.succ_eq_add_one, capP, growB, blt_iff, ble_iff, beq_iff, Int.natCast_add, Int.natCast_one, k0, m9]; omega) | (simp; omega) | omega
          · exact ⟨by omega, by show _ ≤ _; simp only []; omega, by simp only []; omega, by simp only []; omega, by simp only []; omega⟩
          · show n - (i + 1) < n - i; omega
          · exact .inr ⟨_, hq.2⟩
      · by_cases k1 : (f i 0).toI = 1
        · by_cases n0 : (f i 1).toI < 0
          · refine wpIn_mono (path_at envOk mkEnv_intr (s1a_is o i inn out n lost m f g) ?_ hA) fun e a' w' hq => .inl ⟨hq.1, ⟨i + 1, inn, out, lost, m⟩, ?_, ?_, ?_⟩
            · repeat' (refine And.intro ?_ ?_)
              all_goals first | exact trivial | (simp [wi, wo, wl, wn, wm, hi, hn, Nat.zero_add, Int.toNat_natCast, Nat.succ_eq_add_one, capP, growB, blt_iff, ble_iff, beq_iff, Int.natCast_add, Int.natCast_one, k0, k1, n0]; done) | (simp [wi, wo, wl, wn, wm, hi, hn, Nat.zero_add, Int.toNat_natCast, Nat.succ_eq_add_one, capP, growB, blt_iff, ble_iff, beq_iff, Int.natCast_add, Int.natCast_one, k0, k1, n0]; omega) | (simp; omega) | omega
            · exact ⟨by omega, by show _ ≤ _; simp only []; omega, by simp only []; omega, by simp only []; omega, by simp only []; omega⟩
            · show n - (i + 1) < n - i; omega
            · exact .inr ⟨_, hq.2⟩
          · by_cases n1 : (m : Int) ≤ (f i 1).toI
            · refine wpIn_mono (path_at envOk mkEnv_intr (s1b_is o i inn out n lost m f g) ?_ hA) fun e a' w' hq => .inl ⟨hq.1, ⟨i + 1, inn, out, lost, m⟩, ?_, ?_, ?_⟩
              · repeat' (refine And.intro ?_ ?_)
                all_goals first | exact trivial | (simp [wi, wo, wl, wn, wm, hi, hn, Nat.zero_add, Int.toNat_natCast, Nat.succ_eq_add_one, capP, growB, blt_iff, ble_iff, beq_iff, Int.natCast_add, Int.natCast_one, k0, k1, n0, n1]; done) | (simp [wi, wo, wl, wn, wm, hi, hn, Nat.zero_add, Int.toNat_natCast, Nat.succ_eq_add_one, capP, growB, blt_iff, ble_iff, beq_iff, Int.natCast_add, Int.natCast_one, k0, k1, n0, n1]; omega) | (simp; omega) | omega
              · exact ⟨by omega, by show _ ≤ _; simp only []; omega, by simp only []; omega, by simp only []; omega, by simp only []; omega⟩
              · show n - (i + 1) < n - i; omega
              · exact .inr ⟨_, hq.2⟩
            · have wz := wrapz (z := (f i 1).toI) (by omega) (by omega)
              obtain ⟨g', hg'⟩ : ∃ g' : Nat → Nat → AV, (∀ (p_ q_ : Nat), p_ < (m - 1) → (g') p_ q_ = ((fover (fover g (0 + 0 + (Int.toNat (Go.Proofs.Ytjoojpnbhmhalaa.Am.AV.toI (f (0 + Int.toNat (↑i : Int)) (Nat.succ 0))) - 0)) (m - Int.toNat (Go.IntKind.wrap Go.IntKind.i64 (Go.Proofs.Ytjoojpnbhmhalaa.Am.AV.toI (f (0 + Int.toNat (↑i : Int)) (Nat.succ 0)) + 1))) (fun p_ q_ => g (0 + Int.toNat (Go.IntKind.wrap Go.IntKind.i64 (Go.Proofs.Ytjoojpnbhmhalaa.Am.AV.toI (f (0 + Int.toNat (↑i : Int)) (Nat.succ 0)) + 1)) + p_) q_)) (0 + 0 + Int.toNat (↑(Int.toNat (Go.Proofs.Ytjoojpnbhmhalaa.Am.AV.toI (f (0 + Int.toNat (↑i : Int)) (Nat.succ 0))) - 0 + (m - Int.toNat (Go.IntKind.wrap Go.IntKind.i64 (Go.Proofs.Ytjoojpnbhmhalaa.Am.AV.toI (f (0 + Int.toNat (↑i : Int)) (Nat.succ 0)) + 1)))) : Int)) (Int.toNat (↑m : Int) - Int.toNat (↑(Int.toNat (Go.Proofs.Ytjoojpnbhmhalaa.Am.AV.toI (f (0 + Int.toNat (↑i : Int)) (Nat.succ 0))) - 0 + (m - Int.toNat (Go.IntKind.wrap Go.IntKind.i64 (Go.Proofs.Ytjoojpnbhmhalaa.Am.AV.toI (f (0 + Int.toNat (↑i : Int)) (Nat.succ 0)) + 1)))) : Int)) (fun p_ q_ => getAt [(.int Go.IntKind.i64 (0))] (q_)))) p_ q_) := ⟨_, fun _ _ _ => rfl⟩
              refine wpIn_mono (path_at envOk mkEnv_intr (s1c_is o i inn out n lost m f g g') ?_ hA) fun e a' w' hq => .inl ⟨hq.1, ⟨i + 1, inn, out + 1, lost, m - 1⟩, ?_, ?_, ?_⟩
              · repeat' (refine And.intro ?_ ?_)
                all_goals first | exact trivial | exact hg' | (simp [wi, wo, wl, wn, wm, hi, hn, Nat.zero_add, Int.toNat_natCast, Nat.succ_eq_add_one, capP, growB, blt_iff, ble_iff, beq_iff, Int.natCast_add, Int.natCast_one, k0, k1, n0, n1, wz]; done) | (simp [wi, wo, wl, wn, wm, hi, hn, Nat.zero_add, Int.toNat_natCast, Nat.succ_eq_add_one, capP, growB, blt_iff, ble_iff, beq_iff, Int.natCast_add, Int.natCast_one, k0, k1, n0, n1, wz]; omega) | (simp; omega) | omega
              · exact ⟨by omega, by show _ ≤ _; simp only []; omega, by simp only []; omega, by simp only []; omega, by simp only []; omega⟩
              · show n - (i + 1) < n - i; omega
              · exact .inr ⟨_, hq.2⟩
        · by_cases k2 : (f i 0).toI = 2
          · by_cases n0 : (f i 1).toI < 0
            · refine wpIn_mono (path_at envOk mkEnv_intr (s2a_is o i inn out n lost m f g) ?_ hA) fun e a' w' hq => .inl ⟨hq.1, ⟨i + 1, inn, out, lost, m⟩, ?_, ?_, ?_⟩
              · repeat' (refine And.intro ?_ ?_)
                all_goals first | exact trivial | (simp [wi, wo, wl, wn, wm, hi, hn, Nat.zero_add, Int.toNat_natCast, Nat.succ_eq_add_one, capP, growB, blt_iff, ble_iff, beq_iff, Int.natCast_add, Int.natCast_one, k0, k1, k2, n0]; done) | (simp [wi, wo, wl, wn, wm, hi, hn, Nat.zero_add, Int.toNat_natCast, Nat.succ_eq_add_one, capP, growB, blt_iff, ble_iff, beq_iff, Int.natCast_add, Int.natCast_one, k0, k1, k2, n0]; omega) | (simp; omega) | omega
              · exact ⟨by omega, by show _ ≤ _; simp only []; omega, by simp only []; omega, by simp only []; omega, by simp only []; omega⟩
              · show n - (i + 1) < n - i; omega
              · exact .inr ⟨_, hq.2⟩
            · by_cases n1 : (m : Int) ≤ (f i 1).toI
              · refine wpIn_mono (path_at envOk mkEnv_intr (s2b_is o i inn out n lost m f g) ?_ hA) fun e a' w' hq => .inl ⟨hq.1, ⟨i + 1, inn, out, lost, m⟩, ?_, ?_, ?_⟩
                · repeat' (refine And.intro ?_ ?_)
                  all_goals first | exact trivial | (simp [wi, wo, wl, wn, wm, hi, hn, Nat.zero_add, Int.toNat_natCast, Nat.succ_eq_add_one, capP, growB, blt_iff, ble_iff, beq_iff, Int.natCast_add, Int.natCast_one, k0, k1, k2, n0, n1]; done) | (simp [wi, wo, wl, wn, wm, hi, hn, Nat.zero_add, Int.toNat_natCast, Nat.succ_eq_add_one, capP, growB, blt_iff, ble_iff, beq_iff, Int.natCast_add, Int.natCast_one, k0, k1, k2, n0, n1]; omega) | (simp; omega) | omega
                · exact ⟨by omega, by show _ ≤ _; simp only []; omega, by simp only []; omega, by simp only []; omega, by simp only []; omega⟩
                · show n - (i + 1) < n - i; omega
                · exact .inr ⟨_, hq.2⟩
              · by_cases m9 : m = 9
                · refine wpIn_mono (path_at envOk mkEnv_intr (s2c_is o i inn out n lost m f g) ?_ hA) fun e a' w' hq => .inl ⟨hq.1, ⟨i + 1, inn, out, lost, m⟩, ?_, ?_, ?_⟩
                  · repeat' (refine And.intro ?_ ?_)
                    all_goals first | exact trivial | (simp [wi, wo, wl, wn, wm, hi, hn, Nat.zero_add, Int.toNat_natCast, Nat.succ_eq_add_one, capP, growB, blt_iff, ble_iff, beq_iff, Int.natCast_add, Int.natCast_one, k0, k1, k2, n0, n1, m9]; done) | (simp [wi, wo, wl, wn, wm, hi, hn, Nat.zero_add, Int.toNat_natCast, Nat.succ_eq_add_one, capP, growB, blt_iff, ble_iff, beq_iff, Int.natCast_add, Int.natCast_one, k0, k1, k2, n0, n1, m9]; omega) | (simp; omega) | omega
                  · exact ⟨by omega, by show _ ≤ _; simp only []; omega, by simp only []; omega, by simp only []; omega, by simp only []; omega⟩
                  · show n - (i + 1) < n - i; omega
                  · exact .inr ⟨_, hq.2⟩
                · obtain ⟨g', hg'⟩ : ∃ g' : Nat → Nat → AV, (∀ (p_ q_ : Nat), p_ < (m + 1) → (g') p_ q_ = ((fjoin (fun p_ q_ => g (0 + p_) q_) (m) (rowsOf (1) [(.int Go.IntKind.i64 (Go.Proofs.Ytjoojpnbhmhalaa.Am.AV.toI (g (0 + Int.toNat (Go.Proofs.Ytjoojpnbhmhalaa.Am.AV.toI (f (0 + Int.toNat (↑i : Int)) (Nat.succ 0)))) 0)))] (1)))) p_ q_) := ⟨_, fun _ _ _ => rfl⟩
                  refine wpIn_mono (path_at envOk mkEnv_intr (s2d_is o i inn out n lost m f g g') ?_ hA) fun e a' w' hq => .inl ⟨hq.1, ⟨i + 1, inn + 1, out, lost, m + 1⟩, ?_, ?_, ?_⟩
                  · repeat' (refine And.intro ?_ ?_)
                    all_goals first | exact trivial | exact hg' | (simp [wi, wo, wl, wn, wm, hi, hn, Nat.zero_add, Int.toNat_natCast, Nat.succ_eq_add_one, capP, growB, blt_iff, ble_iff, beq_iff, Int.natCast_add, Int.natCast_one, k0, k1, k2, n0, n1, m9]; done) | (simp [wi, wo, wl, wn, wm, hi, hn, Nat.zero_add, Int.toNat_natCast, Nat.succ_eq_add_one, capP, growB, blt_iff, ble_iff, beq_iff, Int.natCast_add, Int.natCast_one, k0, k1, k2, n0, n1, m9]; omega) | (simp; omega) | omega
                  · exact ⟨by omega, by show _ ≤ _; simp only []; omega, by simp only []; omega, by simp only []; omega, by simp only []; omega⟩
                  · show n - (i + 1) < n - i; omega
                  · exact .inr ⟨_, hq.2⟩
          · by_cases k3 : (f i 0).toI = 3
            · by_cases m0 : m = 0
              · refine wpIn_mono (path_at envOk mkEnv_intr (s3b_is o i inn out n lost m f g) ?_ hA) fun e a' w' hq => .inl ⟨hq.1, ⟨i + 1, inn, out + m, lost, m⟩, ?_, ?_, ?_⟩
                · repeat' (refine And.intro ?_ ?_)
                  all_goals first | exact trivial | (simp [wi, wo, wl, wn, wm, hi, hn, Nat.zero_add, Int.toNat_natCast, Nat.succ_eq_add_one, capP, growB, blt_iff, ble_iff, beq_iff, Int.natCast_add, Int.natCast_one, k0, k1, k2, k3, m0]; done) | (simp [wi, wo, wl, wn, wm, hi, hn, Nat.zero_add, Int.toNat_natCast, Nat.succ_eq_add_one, capP, growB, blt_iff, ble_iff, beq_iff, Int.natCast_add, Int.natCast_one, k0, k1, k2, k3, m0]; omega) | (simp; omega) | omega
                · exact ⟨by omega, by show _ ≤ _; simp only []; omega, by simp only []; omega, by simp only []; omega, by simp only []; omega⟩
                · show n - (i + 1) < n - i; omega
                · exact .inr ⟨_, hq.2⟩
              · refine wpIn_mono (path_at envOk mkEnv_intr (s3a_is o i inn out n lost m f g) ?_ hA) fun e a' w' hq => .inl ⟨hq.1, ⟨i + 1, inn, out + m, lost, 0⟩, ?_, ?_, ?_⟩
                · repeat' (refine And.intro ?_ ?_)
                  all_goals first | exact trivial | (simp [wi, wo, wl, wn, wm, hi, hn, Nat.zero_add, Int.toNat_natCast, Nat.succ_eq_add_one, capP, growB, blt_iff, ble_iff, beq_iff, Int.natCast_add, Int.natCast_one, k0, k1, k2, k3, Nat.pos_of_ne_zero m0]; done) | (simp [wi, wo, wl, wn, wm, hi, hn, Nat.zero_add, Int.toNat_natCast, Nat.succ_eq_add_one, capP, growB, blt_iff, ble_iff, beq_iff, Int.natCast_add, Int.natCast_one, k0, k1, k2, k3, Nat.pos_of_ne_zero m0]; omega) | (simp; omega) | omega
                · exact ⟨by omega, by show _ ≤ _; simp only []; omega, by simp only []; omega, by simp only []; omega, by simp only []; omega⟩
                · show n - (i + 1) < n - i; omega
                · exact .inl ⟨rfl, hq.2⟩
            · refine wpIn_mono (path_at envOk mkEnv_intr (s4_is o i inn out n lost m f g) ?_ hA) fun e a' w' hq => .inl ⟨hq.1, ⟨i + 1, inn, out, lost, m⟩, ?_, ?_, ?_⟩
              · repeat' (refine And.intro ?_ ?_)
                all_goals first | exact trivial | (simp [wi, wo, wl, wn, wm, hi, hn, Nat.zero_add, Int.toNat_natCast, Nat.succ_eq_add_one, capP, growB, blt_iff, ble_iff, beq_iff, Int.natCast_add, Int.natCast_one, k0, k1, k2, k3]; done) | (simp [wi, wo, wl, wn, wm, hi, hn, Nat.zero_add, Int.toNat_natCast, Nat.succ_eq_add_one, capP, growB, blt_iff, ble_iff, beq_iff, Int.natCast_add, Int.natCast_one, k0, k1, k2, k3]; omega) | (simp; omega) | omega
              · exact ⟨by omega, by show _ ≤ _; simp only []; omega, by simp only []; omega, by simp only []; omega, by simp only []; omega⟩
              · show n - (i + 1) < n - i; omega
              · exact .inr ⟨_, hq.2⟩
  · rcases hC with ⟨hm0, o, hA⟩ | ⟨g, o, hA⟩
    · simp only at hm0
      subst hm0
      refine wpIn_mono (path_at envOk mkEnv_intr (zx_is o i inn out n lost f) ?_ hA) fun e a' w' hq => .inr ⟨by rw [hq.1]; simp [Ex.out], hq.1, ⟨i, inn, out, lost, 0⟩, ⟨hn, hin, hsum, hle, hm⟩, ?_⟩
      · repeat' (refine And.intro ?_ ?_)
        all_goals first | exact trivial | (simp [hi, capP]; done) | (simp; omega)
      · exact .inl ⟨rfl, hq.2⟩
    · refine wpIn_mono (path_at envOk mkEnv_intr (sx_is o i inn out n lost m f g) ?_ hA) fun e a' w' hq => .inr ⟨by rw [hq.1]; simp [Ex.out], hq.1, ⟨i, inn, out, lost, m⟩, ⟨hn, hin, hsum, hle, hm⟩, ?_⟩
      · repeat' (refine And.intro ?_ ?_)
        all_goals first | exact trivial | (simp [hi, capP]; done) | (simp; omega)
      · exact .inr ⟨g, hq.2⟩

theorem cs_eq : cs = pre ++ Code.block 0 (.loop body) :: post := by kernel_rfl
theorem nil_ : resB E 100000 3 [.nilSlice] (stC []) = true := by kernel_rfl
theorem gap_ : resB E 100000 3 [.tsl 0 0 0 0 2 true] (stC [none]) = true := by kernel_rfl
theorem f_some : (E.fn.get 3).isSome = true := by kernel_rfl
theorem f_body : ((E.fn.get 3).bind fun fn => fn.body).isSome = true := by kernel_rfl
theorem f_tmps : (E.fn.get 3).map (fun fn => fn.ntmps) = some 74 := by kernel_rfl
theorem f_res : (E.fn.get 3).map (fun fn => fn.results.toList) = some [.tmp 2] := by kernel_rfl

theorem pz_run (W : World) (i inn out n lost : Nat) (f : Nat → Nat → AV) (o : Nat → AV) (w1 : IntKind.i64.wrap (out : Int) = out) (w2 : IntKind.i64.wrap (lost : Int) = lost) (w4 : IntKind.i64.wrap ((out : Int) + lost) = out + lost) (hs : inn = out + 0 + lost)
    {a : Act} {w : World} (hA : At W (frO (L i inn out n) o) (stC (HZ n f lost)) none a w) : lwp (fen none) 0 Try.prog post (fun x a' w' => x = Exit.ret ∧ AtO W (L9 n) [] none a' w') a w := by
  refine lwp_path envOk mkEnv_intr (pz_is o i inn out n lost f) ⟨?_, ?_, rfl, trivial⟩ hA
  · simp only [Int.add_zero, w1, w2, w4]
    simp; omega
  · simp only [Int.add_zero, w1, w2, w4]
    simp; omega
theorem ps_run (W : World) (i inn out n lost m : Nat) (f g : Nat → Nat → AV) (o : Nat → AV) (w2 : IntKind.i64.wrap (lost : Int) = lost) (w3 : IntKind.i64.wrap ((out : Int) + m) = out + m) (w4 : IntKind.i64.wrap ((out : Int) + m + lost) = out + m + lost) (hs : inn = out + m + lost)
    {a : Act} {w : World} (hA : At W (frO (L i inn out n) o) (stC (HS n f lost m g)) none a w) : lwp (fen none) 0 Try.prog post (fun x a' w' => x = Exit.ret ∧ AtO W (L9 n) [] none a' w') a w := by
  refine lwp_path envOk mkEnv_intr (ps_is o i inn out n lost m f g) ⟨?_, ?_, rfl, trivial⟩ hA
  · simp only [w2, w3, w4]
    simp; omega
  · simp only [w2, w3, w4]
    simp; omega

theorem rows (W : World) (n : Nat) (f : Nat → Nat → AV) {φ : Phi} {v : Value} (hR : Rel W φ (stC [some (arr n f)]).get (stC [some (arr n f)]).next W) (hv : VR φ (.tsl 0 0 n n 2 true) v) :
    Calls Try.prog 3 #[v] W fun e W' => e = .returned (.bool true) ∧ Below W.heap.size W W' := by
  obtain ⟨fn, hfn⟩ := Option.isSome_iff_exists.1 f_some
  have hb0 := f_body
  have ht := f_tmps
  have hr := f_res
  rw [hfn] at hb0 ht hr
  simp only [Option.bind_some, Option.map_some, Option.some.injEq] at hb0 ht hr
  obtain ⟨c, hb⟩ := Option.isSome_iff_exists.1 hb0
  have hcs : flat c = cs := by simp only [cs, codeOf, hfn, hb]
  refine callsIn_wide.1 (CallsIn.mono (F := Fence.wide) (n := 0) (calls_at (k := 0) (us := [v]) envOk hfn hb (args := [.tsl 0 0 n n 2 true]) (by rw [ht]; simp) hR (VRL.cons hv VRL.nil)
    (R := fun e W' => e = .returned (.bool true) ∧ Below W.heap.size W W') fun a hA => ?_) fun e W' he => he)
  rw [ht] at hA
  refine lwp_flat c _ a W ?_
  rw [hcs, cs_eq]
  -- what is asked at the end
  have fin : ∀ x a' w', (x = Exit.ret ∧ AtO W (L9 n) [] none a' w') → (x = Exit.normal ∨ x = Exit.ret) ∧ ∃ fr' σ' σ2 v, At W fr' σ' none a' w' ∧ amarks fr'.marks σ' = some σ2 ∧
      aresults E fr' σ2.get fn.results.toList = some v ∧ ∀ φ' u w'', VR φ' v u → Rel W φ' σ2.get σ2.next w'' → (Ending.returned u = .returned (.bool true) ∧ Below W.heap.size W w'') := by
    intro x a' w' ⟨hx, o, hat⟩
    refine ⟨.inr hx, frO (L9 n) o, stC [], stC [], .bool true, hat, rfl, ?_, fun φ' u w'' h1 h2 => ?_⟩
    · rw [hr]; rfl
    · simp only [VR] at h1
      exact ⟨by rw [h1], h2.below⟩
  refine lwp_join pre a W ?_
  by_cases hn : n ≤ 300
  · refine lwp_mono (fun e a1 w1 hq => ?_) _ _ _ (lwp_path envOk mkEnv_intr (b1_is n f) ?_ hA)
    · obtain ⟨rfl, hA1⟩ := hq
      show (Code.block 0 (.loop body)).wpIn _ _ _ _ a1 w1
      refine wpIn_block (loop_at (C W n f) (Inv n) (fun x => n - x.i) (fun x hI a2 w2 hC => ?_) ⟨0, 0, 0, 0, 0⟩ ⟨hn, by simp only []; omega, rfl, Nat.le_refl _, by simp only []; omega⟩ a1 w1 (.inl ⟨rfl, hA1⟩))
      refine wpIn_mono (step W 0 n f x hI a2 w2 hC) fun e a3 w3 hq => ?_
      rcases hq with hq | ⟨hne, rfl, ⟨i, inn, out, lost, m⟩, ⟨_, hin, hsum, hle, hm⟩, hC'⟩
      · exact .inl hq
      · refine .inr ⟨hne, ?_⟩
        simp only at hin hsum hle hm
        have w1' := wrap0 (a := out) (by omega)
        have w2' := wrap0 (a := lost) (by omega)
        have w3' := wrapa (a := out) (b := m) (by omega) (by omega)
        have w4' := wrapa (a := out + m) (b := lost) (by omega) (by omega)
        simp only [Int.natCast_add] at w4'
        show Exit.inBlock 0 _ (.exit 0) a3 w3
        simp only [Exit.inBlock, if_true]
        rcases hC' with ⟨h0, o, hA3⟩ | ⟨g, o, hA3⟩
        · simp only at h0
          subst h0
          simp only [Int.natCast_zero, Int.add_zero] at w4'
          exact lwp_mono fin _ _ _ (pz_run W i inn out n lost f o w1' w2' w4' hsum hA3)
        · exact lwp_mono fin _ _ _ (ps_run W i inn out n lost m f g o w2' w3' w4' hsum hA3)
    · repeat' (refine And.intro ?_ ?_)
      all_goals first | exact trivial | (simp [capP]; done) | (simp; omega)
  · refine lwp_mono (fun e a1 w1 hq => ?_) _ _ _ (lwp_path envOk mkEnv_intr (b0_is n f) ?_ hA)
    · have := fin e a1 w1 hq
      have he := hq.1
      subst he
      exact this
    · repeat' (refine And.intro ?_ ?_)
      all_goals first | exact trivial | (simp; done) | (simp; omega)

theorem elem_row {H : Type} {enc : TypeId × Value → H} {W : World} {sp : Nat → Bool} {held : Bool} (cs : List Value) (n : Nat) (y : DataW H × List MemPlace) (h : DataW.trod enc Try.prog W 0 sp held n 27 cs = some y) :
    ∃ r : Nat → AV, ∀ φ, VRL φ (trow r [.int .i64, .int .i64] 0) cs :=
  row_ints Try.underlying27 [.i64, .i64] (by kernel_rfl) (by kernel_rfl) (by
    intro f hf
    have h : (((Try.prog.underlying 27).bind fun d => match d with | .struct fs => some (fs.toList.all fun f => Nat.beq (Try.prog.cellsOf f.type) 1) | _ => none) = some true) := by kernel_rfl
    rw [Try.underlying27] at h
    simp only [Option.bind_some, Option.some.injEq] at h
    exact Nat.eq_of_beq_eq_true (List.all_eq_true.1 h f hf)) cs n y h

set_option maxRecDepth 100000 in
theorem lifted (os : Os) (started : os.Started) (H : Type) (enc : TypeId × Value → H) :
    ReturnsInHanded {} Try.checked os 3 .any (Rows.bagKeepsSpec.pre6 enc Try.prog Try.f3 Rows.bagKeepsRow.domain false) (Rows.bagKeepsSpec.post enc Try.prog Try.f3 false true false false) := by
  refine returnsInHanded_of_change_sized (C := Try.checked) own started (by kernel_rfl) Try.func3
    (ChangeSpec.witness6 (enc := enc) (C := Try.checked) false ⟨#[], #[.slice none 0 0], []⟩ 8 (by kernel_rfl) (by kernel_rfl) (by kernel_rfl) (by kernel_rfl)) ?_
  intro W base args ds gs before hval0 hW hcnd hsz0 _
  have hval : ∀ (j : Nat) t v, Try.f3.params[j]? = some t → args[j]? = some v → Value.okWide Try.prog W .any base t v := hval0
  have hW' := hW
  obtain ⟨p, q, hA0, hV, rfl, hfz, hnd⟩ := hW
  have hA : DataW.TrodAll enc Try.prog W 0 (fun _ => true) true Try.f3.params.toList args.toList ds p := hA0
  rw [Try.params3] at hA hval
  obtain ⟨v0, vs0, d0, ds0, p0, q0, hargs, rfl, rfl, h0, r0⟩ := trodAll_cons hA
  obtain ⟨rfl, rfl, rfl⟩ := trodAll_nil r0
  obtain rfl : args = #[v0] := by cases args; simp_all
  obtain ⟨rfl, rfl⟩ := trodVars_none hV
  have hsl := okWide_slice Try.underlying22 (hval 0 22 v0 rfl rfl)
  have k0 := h0
  have lt0 : ∀ x ∈ p0, x.block < W.heap.size := by obtain ⟨m, hm⟩ := k0; exact DataW.trod_lt m _ _ _ hm
  have walk : Calls Try.prog 3 #[v0] W fun e W' => e = .returned (.bool true) ∧ Below W.heap.size W W' := by
    rcases open_rows (sh := [.int .i64, .int .i64]) Try.underlying22 (by kernel_rfl) (by decide) (fun _ => rfl) (fun cs n y h => elem_row cs n y h) hsl h0 with rfl | ⟨a, rfl⟩ | ⟨l, n, cap, f, h1, h2, h3, h4, rfl, h5, h6⟩
    · exact law_run envOk mkEnv_intr (us := [.slice none 0 0]) (ro_none W) (VRL.cons (by simp only [VR]) VRL.nil) nil_
    · refine law_run envOk mkEnv_intr (us := [.slice (some a) 0 0]) (ro_gap (ro_none W) ⟨0, 0, 0⟩) (VRL.cons ?_ VRL.nil) gap_
      simp only [VR]
      exact ⟨_, a, 0, upd_same _ _ _, rfl, Nat.le_refl _, Nat.le_refl _, (fun _ => rfl), (fun h => absurd h (by omega)), (fun h => absurd h (by omega))⟩
    · exact rows W n f (ro_add (ro_none W) (fun o h => by simp at h) h1 (o := arr n f) rfl h6) (VR_rows (upd_same _ _ _) h3 h5)
  refine walk.mono fun e W' ⟨he, bel⟩ => ?_
  subst he
  exact ⟨_, rfl, _, _, _, [], _, [], hW', trodAll_mk1 (shut_bool Try.underlying4 _), (trodAll_cons_mk (Below.trod laidOut (by kernel_rfl) (of_decide_eq_true (by kernel_rfl)) k0 bel lt0) trodAll_mk0), rfl, bel.frame _, fun h => by cases h⟩
theorem over : Rows.bagKeepsRow.holds Try.pinned (OpenSpec.ofChange Rows.bagKeepsSpec) :=
  OpenClaim.holds_of_wide 3 Try.f3 rfl rfl rfl rfl rfl rfl rfl ⟨rfl, rfl, rfl, rfl, rfl⟩ rfl rfl rfl rfl rfl (by kernel_rfl) Try.func3 (by kernel_rfl)
    (of_decide_eq_true (by kernel_rfl)) (by unfold Func.isWrapper; first | (rw [if_pos (by decide +kernel)]; kernel_rfl) | (rw [if_neg (by decide +kernel)]; exact ⟨rfl, rfl⟩))
    (fun os started H enc _ => lifted os started H enc)
theorem proved : Rows.BagKeepsSaid := over
#print axioms proved
end Go.Proofs.Ytjoojpnbhmhalaa.bagKeeps
namespace Go.Proofs.Ytjoojpnbhmhalaa
/-- The row, under a short name, for the claim. -/
theorem bagKeeps_holds : Rows.BagKeepsSaid := bagKeeps.proved
end Go.Proofs.Ytjoojpnbhmhalaa
