/- Sets as numbers: who is in them, in order, how many they are. Plain numbers, no program. -/
import Derived.Test.YtckpljmiodgejaaQtA
import Derived.KernelRfl
set_option linter.unusedSimpArgs false
set_option linter.unusedVariables false
set_option maxRecDepth 20000
namespace Go.Proofs.Ytckpljmiodgejaa.quorumTells
open Go Go.RowKit Go.Proofs.Ytckpljmiodgejaa.Bm
theorem popN_zero : ∀ k, popN k 0 = 0
  | 0 => rfl
  | k + 1 => by simp only [popN]; rw [popN_zero k]
theorem popN_le : ∀ k x, popN k x ≤ k
  | 0, _ => Nat.le_refl _
  | k + 1, x => by
    have := popN_le k (x / 2)
    simp only [popN]; omega
theorem and2 (u v : Nat) : (u &&& v) % 2 = (u % 2) * (v % 2) := by
  have := Nat.and_mod_two_pow (a := u) (b := v) (n := 1)
  simp only [Nat.pow_one] at this
  rw [this]
  rcases Nat.mod_two_eq_zero_or_one u with h | h <;> rcases Nat.mod_two_eq_zero_or_one v with h' | h' <;> rw [h, h'] <;> rfl
theorem or2 (u v : Nat) : (u ||| v) % 2 + (u % 2) * (v % 2) = u % 2 + v % 2 := by
  have := Nat.or_mod_two_pow (a := u) (b := v) (n := 1)
  simp only [Nat.pow_one] at this
  rw [this]
  rcases Nat.mod_two_eq_zero_or_one u with h | h <;> rcases Nat.mod_two_eq_zero_or_one v with h' | h' <;> rw [h, h'] <;> rfl
theorem popN_add : ∀ k u v, popN k (u &&& v) + popN k (u ||| v) = popN k u + popN k v
  | 0, _, _ => rfl
  | k + 1, u, v => by
    have h := popN_add k (u / 2) (v / 2)
    have h1 := and2 u v
    have h2 := or2 u v
    simp only [popN, Nat.and_div_two, Nat.or_div_two]
    rw [h1]; omega
theorem popN_and_le (k u v : Nat) : popN k (u &&& v) ≤ popN k v := by
  induction k generalizing u v with
  | zero => exact Nat.le_refl _
  | succ k ih =>
    have h := ih (u / 2) (v / 2)
    have h1 := and2 u v
    simp only [popN, Nat.and_div_two]
    rw [h1]
    rcases Nat.mod_two_eq_zero_or_one u with h | h <;> rcases Nat.mod_two_eq_zero_or_one v with h' | h' <;> rw [h, h'] <;> omega
theorem popN_pow : ∀ k n, popN k (2 ^ n) ≤ 1
  | 0, _ => Nat.zero_le _
  | k + 1, 0 => by simp only [popN]; rw [show (2 : Nat) ^ 0 / 2 = 0 from rfl, popN_zero]; decide
  | k + 1, n + 1 => by
    have h := popN_pow k n
    simp only [popN]
    have e : 2 ^ (n + 1) = 2 ^ n * 2 := Nat.pow_succ 2 n
    rw [show 2 ^ (n + 1) / 2 = 2 ^ n by omega, show 2 ^ (n + 1) % 2 = 0 by omega]
    omega
theorem popN_join : ∀ j k b X, b < 2 ^ j → popN (j + k) (b + 2 ^ j * X) = popN j b + popN k X
  | 0, k, b, X, h => by
    have : b = 0 := by simpa using h
    subst this
    simp [popN]
  | j + 1, k, b, X, h => by
    have e : 2 ^ (j + 1) = 2 ^ j * 2 := Nat.pow_succ 2 j
    have ih := popN_join j k (b / 2) X (by omega)
    rw [show j + 1 + k = (j + k) + 1 by omega]
    simp only [popN]
    have e2 : 2 ^ (j + 1) * X = 2 * (2 ^ j * X) := by rw [e, Nat.mul_right_comm, Nat.mul_comm]
    rw [e2, show (b + 2 * (2 ^ j * X)) / 2 = b / 2 + 2 ^ j * X by omega, ih, show (b + 2 * (2 ^ j * X)) % 2 = b % 2 by omega]
    omega

/-! ### Two majorities -/
theorem meet_one {a b c : Nat} (h1 : 2 * popN 64 (a &&& c) > popN 64 c) (h2 : 2 * popN 64 (b &&& c) > popN 64 c) : a &&& b &&& c ≠ 0 := by
  intro h0
  have h3 := popN_add 64 (a &&& c) (b &&& c)
  have e1 : (a &&& c) &&& (b &&& c) = 0 := by
    have : (a &&& c) &&& (b &&& c) = (a &&& b &&& c) &&& c := by
      apply Nat.eq_of_testBit_eq; intro i; simp only [Nat.testBit_and]
      cases a.testBit i <;> cases b.testBit i <;> cases c.testBit i <;> rfl
    rw [this, h0]; exact Nat.zero_and c
  have e2 : (a &&& c) ||| (b &&& c) = (a ||| b) &&& c := by
    apply Nat.eq_of_testBit_eq; intro i; simp only [Nat.testBit_and, Nat.testBit_or]
    cases a.testBit i <;> cases b.testBit i <;> cases c.testBit i <;> rfl
  rw [e1, e2, popN_zero] at h3
  have := popN_and_le 64 (a ||| b) c
  omega
theorem meet_more {a b c m : Nat} (hm : c &&& m = c) (hp : popN 64 m ≤ popN 64 c + 1) (h1 : 2 * popN 64 (a &&& c) > popN 64 c) (h2 : 2 * popN 64 (b &&& m) > popN 64 m) : a &&& b &&& m ≠ 0 := by
  intro h0
  have h3 := popN_add 64 (a &&& c) (b &&& m)
  have hbit : ∀ i, c.testBit i = true → m.testBit i = true := fun i hi => by
    have := congrArg (fun z => z.testBit i) hm
    simp only [Nat.testBit_and, hi, Bool.true_and] at this
    exact this
  have e1 : (a &&& c) &&& (b &&& m) = 0 := by
    have : (a &&& c) &&& (b &&& m) = (a &&& b &&& m) &&& c := by
      apply Nat.eq_of_testBit_eq; intro i; simp only [Nat.testBit_and]
      cases a.testBit i <;> cases b.testBit i <;> cases c.testBit i <;> cases m.testBit i <;> rfl
    rw [this, h0]; exact Nat.zero_and c
  have e2 : (a &&& c) ||| (b &&& m) = ((a &&& c) ||| b) &&& m := by
    apply Nat.eq_of_testBit_eq; intro i
    have := hbit i
    simp only [Nat.testBit_and, Nat.testBit_or]
    cases hc : c.testBit i with
    | true => rw [this hc]; cases a.testBit i <;> cases b.testBit i <;> rfl
    | false => cases a.testBit i <;> cases b.testBit i <;> cases m.testBit i <;> rfl
  rw [e1, e2, popN_zero] at h3
  have := popN_and_le 64 ((a &&& c) ||| b) m
  omega
theorem sub_or (c p : Nat) : c &&& (c ||| p) = c := by
  apply Nat.eq_of_testBit_eq; intro i; simp only [Nat.testBit_and, Nat.testBit_or]
  cases c.testBit i <;> cases p.testBit i <;> rfl
theorem pop_or (c n : Nat) : popN 64 (c ||| 2 ^ n) ≤ popN 64 c + 1 := by
  have := popN_add 64 c (2 ^ n)
  have := popN_pow 64 n
  omega

/-! ### Bytes -/
def cat : List Nat → Nat
  | [] => 0
  | b :: bs => b + 256 * cat bs
def digits : Nat → Nat → List Nat
  | 0, _ => []
  | k + 1, x => x % 256 :: digits k (x / 256)
theorem cat_digits : ∀ k x, x < 256 ^ k → cat (digits k x) = x
  | 0, x, h => by simp at h; simp [digits, cat, h]
  | k + 1, x, h => by
    have e : 256 ^ (k + 1) = 256 ^ k * 256 := Nat.pow_succ 256 k
    simp only [digits, cat]
    rw [cat_digits k (x / 256) (by omega)]
    omega
theorem digits_lt : ∀ k x, ∀ b ∈ digits k x, b < 256
  | 0, x, b, h => by simp [digits] at h
  | k + 1, x, b, h => by
    simp only [digits, List.mem_cons] at h
    rcases h with rfl | h
    · omega
    · exact digits_lt k _ b h
theorem digits_length : ∀ k x, (digits k x).length = k
  | 0, x => rfl
  | k + 1, x => by simp [digits, digits_length k]
theorem land_cons {a c : Nat} (ha : a < 256) (hc : c < 256) (X Y : Nat) : (a + 256 * X) &&& (c + 256 * Y) = (a &&& c) + 256 * (X &&& Y) := by
  have h1 := Nat.and_mod_two_pow (a := a + 256 * X) (b := c + 256 * Y) (n := 8)
  have h2 := Nat.and_div_two_pow (a := a + 256 * X) (b := c + 256 * Y) (n := 8)
  rw [show (2 : Nat) ^ 8 = 256 from rfl] at h1 h2
  rw [show (a + 256 * X) % 256 = a by omega, show (c + 256 * Y) % 256 = c by omega] at h1
  rw [show (a + 256 * X) / 256 = X by omega, show (c + 256 * Y) / 256 = Y by omega] at h2
  have := Nat.div_add_mod ((a + 256 * X) &&& (c + 256 * Y)) 256
  rw [h1, h2] at this
  omega
/-- A mask of one byte again and again. -/
theorem land_mask {m : Nat} (hm : m < 256) : ∀ bs : List Nat, (∀ b ∈ bs, b < 256) → cat bs &&& cat (List.replicate bs.length m) = cat (bs.map fun b => b &&& m)
  | [], _ => by simp [cat]
  | b :: bs, h => by
    simp only [List.length_cons, List.replicate_succ, cat, List.map_cons]
    rw [land_cons (h b (by simp)) hm, land_mask hm bs (fun c hc => h c (by simp [hc]))]
theorem cat_add : ∀ (f g : Nat → Nat) (bs : List Nat), cat (bs.map f) + cat (bs.map g) = cat (bs.map fun b => f b + g b)
  | _, _, [] => rfl
  | f, g, b :: bs => by
    simp only [List.map_cons, cat]
    rw [← cat_add f g bs]; omega
theorem cat_zip : ∀ (xs bs : List Nat), xs.length = bs.length → cat xs + cat bs = cat (List.zipWith (· + ·) xs bs)
  | [], [], _ => rfl
  | a :: xs, b :: bs, h => by
    simp only [List.zipWith_cons_cons, cat]
    rw [← cat_zip xs bs (by simpa using h)]; omega
  | [], _ :: _, h => by simp at h
  | _ :: _, [], h => by simp at h
def sh1 : List Nat → List Nat
  | [] => []
  | [b] => [b / 2]
  | b :: c :: r => (b / 2 + 128 * (c % 2)) :: sh1 (c :: r)
theorem cat_sh1 : ∀ bs, cat bs / 2 = cat (sh1 bs)
  | [] => rfl
  | [b] => by simp [sh1, cat]
  | b :: c :: r => by
    have ih := cat_sh1 (c :: r)
    simp only [sh1, cat] at ih ⊢
    rw [← ih]; omega
def sh2 : List Nat → List Nat
  | [] => []
  | [b] => [b / 4]
  | b :: c :: r => (b / 4 + 64 * (c % 4)) :: sh2 (c :: r)
theorem cat_sh2 : ∀ bs, cat bs / 4 = cat (sh2 bs)
  | [] => rfl
  | [b] => by simp [sh2, cat]
  | b :: c :: r => by
    have ih := cat_sh2 (c :: r)
    simp only [sh2, cat] at ih ⊢
    rw [← ih]; omega
def sh4 : List Nat → List Nat
  | [] => []
  | [b] => [b / 16]
  | b :: c :: r => (b / 16 + 16 * (c % 16)) :: sh4 (c :: r)
theorem cat_sh4 : ∀ bs, cat bs / 16 = cat (sh4 bs)
  | [] => rfl
  | [b] => by simp [sh4, cat]
  | b :: c :: r => by
    have ih := cat_sh4 (c :: r)
    simp only [sh4, cat] at ih ⊢
    rw [← ih]; omega

def g1 (b : Nat) : Nat := ((b / 2) &&& 85) + (b &&& 85)
def g2 (b : Nat) : Nat := ((b / 4) &&& 51) + (b &&& 51)
def g4 (b : Nat) : Nat := (b / 16 + b) &&& 15
theorem d1 : ∀ b, b < 256 → ∀ t, t < 2 → (b / 2 + 128 * t) &&& 85 = (b / 2) &&& 85 ∧ b / 2 + 128 * t < 256 := by decide +kernel
theorem d2 : ∀ b, b < 256 → ∀ t, t < 4 → (b / 4 + 64 * t) &&& 51 = (b / 4) &&& 51 ∧ b / 4 + 64 * t < 256 := by decide +kernel
theorem d4 : ∀ b, b < 256 → g1 b < 256 ∧ g2 (g1 b) < 69 ∧ g2 (g1 b) % 16 ≤ 4 ∧ g4 (g2 (g1 b)) = popN 8 b := by decide +kernel
theorem d5 : ∀ b, b < 69 → ∀ t, t < 5 → (b / 16 + 16 * t + b) &&& 15 = g4 b ∧ b / 16 + 16 * t + b < 256 := by decide +kernel

theorem mask_sh1 : ∀ bs : List Nat, (∀ b ∈ bs, b < 256) → (∀ b ∈ sh1 bs, b < 256) ∧ (sh1 bs).length = bs.length ∧ (sh1 bs).map (fun b => b &&& 85) = bs.map (fun b => (b / 2) &&& 85)
  | [], _ => ⟨by simp [sh1], rfl, rfl⟩
  | [b], h => by
    have := h b (by simp)
    exact ⟨by simp only [sh1, List.mem_singleton]; intro c hc; omega, rfl, rfl⟩
  | b :: c :: r, h => by
    obtain ⟨i1, i2, i3⟩ := mask_sh1 (c :: r) (fun x hx => h x (by simp at hx ⊢; exact .inr hx))
    have hd := d1 b (h b (by simp)) (c % 2) (by omega)
    refine ⟨fun x hx => ?_, by simp only [sh1, List.length_cons] at i2 ⊢; omega, ?_⟩
    · simp only [sh1, List.mem_cons] at hx
      rcases hx with rfl | hx
      · exact hd.2
      · exact i1 x hx
    · simp only [sh1, List.map_cons] at i3 ⊢
      rw [i3, hd.1]
theorem mask_sh2 : ∀ bs : List Nat, (∀ b ∈ bs, b < 256) → (∀ b ∈ sh2 bs, b < 256) ∧ (sh2 bs).length = bs.length ∧ (sh2 bs).map (fun b => b &&& 51) = bs.map (fun b => (b / 4) &&& 51)
  | [], _ => ⟨by simp [sh2], rfl, rfl⟩
  | [b], h => by
    have := h b (by simp)
    exact ⟨by simp only [sh2, List.mem_singleton]; intro c hc; omega, rfl, rfl⟩
  | b :: c :: r, h => by
    obtain ⟨i1, i2, i3⟩ := mask_sh2 (c :: r) (fun x hx => h x (by simp at hx ⊢; exact .inr hx))
    have hd := d2 b (h b (by simp)) (c % 4) (by omega)
    refine ⟨fun x hx => ?_, by simp only [sh2, List.length_cons] at i2 ⊢; omega, ?_⟩
    · simp only [sh2, List.mem_cons] at hx
      rcases hx with rfl | hx
      · exact hd.2
      · exact i1 x hx
    · simp only [sh2, List.map_cons] at i3 ⊢
      rw [i3, hd.1]
theorem mask_sh4 : ∀ bs : List Nat, (∀ b ∈ bs, b < 69 ∧ b % 16 ≤ 4) → (∀ b ∈ List.zipWith (· + ·) (sh4 bs) bs, b < 256) ∧ (sh4 bs).length = bs.length ∧ (List.zipWith (· + ·) (sh4 bs) bs).map (fun b => b &&& 15) = bs.map g4
  | [], _ => ⟨by simp [sh4], rfl, rfl⟩
  | [b], h => by
    have hb := h b (by simp)
    have hd := d5 b hb.1 0 (by omega)
    simp only [Nat.mul_zero, Nat.add_zero] at hd
    refine ⟨fun x hx => ?_, rfl, ?_⟩
    · simp only [sh4, List.zipWith_cons_cons, List.zipWith_nil_left, List.mem_singleton] at hx
      rw [hx]; exact hd.2
    · simp only [sh4, List.zipWith_cons_cons, List.zipWith_nil_left, List.map_cons, List.map_nil]
      rw [hd.1]
  | b :: c :: r, h => by
    obtain ⟨i1, i2, i3⟩ := mask_sh4 (c :: r) (fun x hx => h x (by simp at hx ⊢; exact .inr hx))
    have hb := h b (by simp)
    have hc := h c (by simp)
    have hd := d5 b hb.1 (c % 16) (by omega)
    refine ⟨fun x hx => ?_, by simp only [sh4, List.length_cons] at i2 ⊢; omega, ?_⟩
    · simp only [sh4, List.zipWith_cons_cons, List.mem_cons] at hx
      rcases hx with rfl | hx
      · exact hd.2
      · exact i1 x (by simpa only [sh4] using hx)
    · simp only [sh4, List.zipWith_cons_cons, List.map_cons] at i3 ⊢
      rw [hd.1, i3]

def n1 (x : Nat) : Nat := ((x / 2) &&& 6148914691236517205) + (x &&& 6148914691236517205)
def n2 (x : Nat) : Nat := ((x / 4) &&& 3689348814741910323) + (x &&& 3689348814741910323)
def n4 (x : Nat) : Nat := (x / 16 + x) &&& 1085102592571150095
def n8 (x : Nat) : Nat := x + x / 256
def n16 (x : Nat) : Nat := x + x / 65536
def n32 (x : Nat) : Nat := x + x / 4294967296

theorem n1_cat (bs : List Nat) (hl : bs.length = 8) (h : ∀ b ∈ bs, b < 256) : n1 (cat bs) = cat (bs.map g1) := by
  obtain ⟨i1, i2, i3⟩ := mask_sh1 bs h
  have m : 6148914691236517205 = cat (List.replicate 8 85) := by decide
  unfold n1
  rw [m, cat_sh1, show (8 : Nat) = (sh1 bs).length by omega, land_mask (by omega) _ i1, i3, i2, land_mask (by omega) _ h, cat_add]
  rfl
theorem n2_cat (bs : List Nat) (hl : bs.length = 8) (h : ∀ b ∈ bs, b < 256) : n2 (cat bs) = cat (bs.map g2) := by
  obtain ⟨i1, i2, i3⟩ := mask_sh2 bs h
  have m : 3689348814741910323 = cat (List.replicate 8 51) := by decide
  unfold n2
  rw [m, cat_sh2, show (8 : Nat) = (sh2 bs).length by omega, land_mask (by omega) _ i1, i3, i2, land_mask (by omega) _ h, cat_add]
  rfl
theorem n4_cat (bs : List Nat) (hl : bs.length = 8) (h : ∀ b ∈ bs, b < 69 ∧ b % 16 ≤ 4) : n4 (cat bs) = cat (bs.map g4) := by
  obtain ⟨i1, i2, i3⟩ := mask_sh4 bs h
  have m : 1085102592571150095 = cat (List.replicate 8 15) := by decide
  have hz : (List.zipWith (· + ·) (sh4 bs) bs).length = 8 := by rw [List.length_zipWith]; omega
  unfold n4
  rw [m, cat_sh4, cat_zip _ _ i2]
  have := land_mask (m := 15) (by omega) _ i1
  rw [hz] at this
  rw [this, i3]

theorem last_steps {pa pb pc pd pe pf pg ph : Nat} (la : pa ≤ 8) (lb : pb ≤ 8) (lc : pc ≤ 8) (ld : pd ≤ 8) (le : pe ≤ 8) (lf : pf ≤ 8) (lg : pg ≤ 8) (lh : ph ≤ 8) {z : Nat} (hz : z = pa + 256 * (pb + 256 * (pc + 256 * (pd + 256 * (pe + 256 * (pf + 256 * (pg + 256 * ph))))))) :
    n8 z < 18446744073709551616 ∧ n16 (n8 z) < 18446744073709551616 ∧ n32 (n16 (n8 z)) < 9223372036854775808 ∧ n32 (n16 (n8 z)) % 128 = pa + (pb + (pc + (pd + (pe + (pf + (pg + ph)))))) := by
  subst hz
  have e8 : n8 (pa + 256 * (pb + 256 * (pc + 256 * (pd + 256 * (pe + 256 * (pf + 256 * (pg + 256 * ph))))))) = (pa + pb) + 256 * ((pb + pc) + 256 * ((pc + pd) + 256 * ((pd + pe) + 256 * ((pe + pf) + 256 * ((pf + pg) + 256 * ((pg + ph) + 256 * ph)))))) := by
    unfold n8; omega
  have e16 : n16 ((pa + pb) + 256 * ((pb + pc) + 256 * ((pc + pd) + 256 * ((pd + pe) + 256 * ((pe + pf) + 256 * ((pf + pg) + 256 * ((pg + ph) + 256 * ph))))))) =
      (pa + pb + pc + pd) + 256 * ((pb + pc + pd + pe) + 256 * ((pc + pd + pe + pf) + 256 * ((pd + pe + pf + pg) + 256 * ((pe + pf + pg + ph) + 256 * ((pf + pg + ph) + 256 * ((pg + ph) + 256 * ph)))))) := by
    unfold n16; omega
  rw [e8, e16]
  have e32 : n32 ((pa + pb + pc + pd) + 256 * ((pb + pc + pd + pe) + 256 * ((pc + pd + pe + pf) + 256 * ((pd + pe + pf + pg) + 256 * ((pe + pf + pg + ph) + 256 * ((pf + pg + ph) + 256 * ((pg + ph) + 256 * ph))))))) =
      (pa + pb + pc + pd + pe + pf + pg + ph) + 256 * ((pb + pc + pd + pe + pf + pg + ph) + 256 * ((pc + pd + pe + pf + pg + ph) + 256 * ((pd + pe + pf + pg + ph) + 256 * ((pe + pf + pg + ph) + 256 * ((pf + pg + ph) + 256 * ((pg + ph) + 256 * ph)))))) := by
    unfold n32; omega
  rw [e32]
  clear e8 e16 e32
  refine ⟨by omega, by omega, by omega, ?_⟩
  generalize hY : ((pb + pc + pd + pe + pf + pg + ph) + 256 * ((pc + pd + pe + pf + pg + ph) + 256 * ((pd + pe + pf + pg + ph) + 256 * ((pe + pf + pg + ph) + 256 * ((pf + pg + ph) + 256 * ((pg + ph) + 256 * ph)))))) = Y
  clear hY
  omega

theorem list8 {α : Type} : ∀ l : List α, l.length = 8 → ∃ a b c d e f g h, l = [a, b, c, d, e, f, g, h]
  | [a, b, c, d, e, f, g, h], _ => ⟨_, _, _, _, _, _, _, _, rfl⟩
theorem steps (x : Nat) (hx : x < 18446744073709551616) : n1 x < 18446744073709551616 ∧ n2 (n1 x) < 18446744073709551616 ∧ n2 (n1 x) / 16 + n2 (n1 x) < 18446744073709551616 ∧ n4 (n2 (n1 x)) < 18446744073709551616 ∧ n8 (n4 (n2 (n1 x))) < 18446744073709551616 ∧
    n16 (n8 (n4 (n2 (n1 x)))) < 18446744073709551616 ∧ n32 (n16 (n8 (n4 (n2 (n1 x))))) < 9223372036854775808 ∧ n32 (n16 (n8 (n4 (n2 (n1 x))))) % 128 = popN 64 x := by
  have hd := cat_digits 8 x (by simpa using hx)
  have hb := digits_lt 8 x
  obtain ⟨a, b, c, d, e, f, g, h, hl⟩ := list8 _ (digits_length 8 x)
  rw [hl] at hd hb
  have h1 := n1_cat _ rfl hb
  have hg1 : ∀ y ∈ [a, b, c, d, e, f, g, h].map g1, y < 256 := fun y hy => by
    rw [List.mem_map] at hy
    obtain ⟨z, hz, rfl⟩ := hy
    exact (d4 z (hb z hz)).1
  have h2 := n2_cat _ rfl hg1
  have hg2 : ∀ y ∈ ([a, b, c, d, e, f, g, h].map g1).map g2, y < 69 ∧ y % 16 ≤ 4 := fun y hy => by
    rw [List.map_map, List.mem_map] at hy
    obtain ⟨z, hz, rfl⟩ := hy
    exact ⟨(d4 z (hb z hz)).2.1, (d4 z (hb z hz)).2.2.1⟩
  have h4 := n4_cat _ rfl hg2
  have ha := d4 a (hb a (by simp))
  have hbb := d4 b (hb b (by simp))
  have hc := d4 c (hb c (by simp))
  have hdd := d4 d (hb d (by simp))
  have he := d4 e (hb e (by simp))
  have hf := d4 f (hb f (by simp))
  have hg := d4 g (hb g (by simp))
  have hh := d4 h (hb h (by simp))
  simp only [List.map_cons, List.map_nil, ha.2.2.2, hbb.2.2.2, hc.2.2.2, hdd.2.2.2, he.2.2.2, hf.2.2.2, hg.2.2.2, hh.2.2.2] at h1 h2 h4
  rw [hd] at h1
  rw [← h1] at h2
  rw [← h2] at h4
  have pop : popN 64 x = popN 8 a + (popN 8 b + (popN 8 c + (popN 8 d + (popN 8 e + (popN 8 f + (popN 8 g + popN 8 h)))))) := by
    rw [← hd]
    simp only [cat, Nat.mul_zero, Nat.add_zero]
    have j := fun k y X (hy : y ∈ [a, b, c, d, e, f, g, h]) => popN_join 8 k y X (hb y hy)
    rw [show (2 : Nat) ^ 8 = 256 from rfl] at j
    rw [show (64 : Nat) = 8 + 56 from rfl, j _ _ _ (by simp), show (56 : Nat) = 8 + 48 from rfl, j _ _ _ (by simp), show (48 : Nat) = 8 + 40 from rfl, j _ _ _ (by simp), show (40 : Nat) = 8 + 32 from rfl, j _ _ _ (by simp),
      show (32 : Nat) = 8 + 24 from rfl, j _ _ _ (by simp), show (24 : Nat) = 8 + 16 from rfl, j _ _ _ (by simp), show (16 : Nat) = 8 + 8 from rfl, j _ _ _ (by simp)]
  have la := popN_le 8 a
  have lb := popN_le 8 b
  have lc := popN_le 8 c
  have ld := popN_le 8 d
  have le := popN_le 8 e
  have lf := popN_le 8 f
  have lg := popN_le 8 g
  have lh := popN_le 8 h
  rw [pop]
  simp only [cat, Nat.mul_zero, Nat.add_zero] at h1 h2 h4
  generalize popN 8 a = pa at *
  generalize popN 8 b = pb at *
  generalize popN 8 c = pc at *
  generalize popN 8 d = pd at *
  generalize popN 8 e = pe at *
  generalize popN 8 f = pf at *
  generalize popN 8 g = pg at *
  generalize popN 8 h = ph at *
  have b1 : n1 x < 18446744073709551616 := by omega
  have b2 : n2 (n1 x) < 18446744073709551616 / 3 := by omega
  exact ⟨b1, by omega, by omega, by omega, last_steps la lb lc ld le lf lg lh h4⟩
theorem mems_succ (s k : Nat) : mems s (k + 1) = mems s k ++ (if s.testBit k then [k] else []) := by
  unfold mems
  rw [List.range_succ, List.filter_append]
  cases h : s.testBit k <;> simp [h]
theorem mems_lt {s k t : Nat} (h : t ∈ mems s k) : t < k := by
  unfold mems at h
  simp only [List.mem_filter, List.mem_range] at h
  exact h.1
theorem mems_len (s : Nat) : ∀ k, (mems s k).length ≤ k
  | 0 => by simp [mems]
  | k + 1 => by
    have := mems_len s k
    rw [mems_succ, List.length_append]
    split <;> simp <;> omega
theorem pop_count : ∀ (k s : Nat), ((List.range k).countP fun i => s.testBit i) = popN k s
  | 0, s => by simp [popN]
  | k + 1, s => by
    rw [List.range_succ_eq_map, List.countP_cons, List.countP_map]
    have e : ((fun i => s.testBit i) ∘ Nat.succ) = fun i => (s / 2).testBit i := by
      funext i
      exact Nat.testBit_succ s i
    rw [e, pop_count k (s / 2)]
    simp only [popN, Nat.testBit_zero]
    rcases Nat.mod_two_eq_zero_or_one s with h | h <;> simp [h] <;> omega
theorem mems_pop (s : Nat) : (mems s 64).length = popN 64 s := by
  rw [← pop_count]
  unfold mems
  rw [List.countP_eq_length_filter]
theorem both_pop (s q : Nat) : ((mems q 64).countP fun j => s.testBit j) = popN 64 (s &&& q) := by
  rw [← pop_count]
  unfold mems
  rw [List.countP_filter]
  congr 1
  funext i
  rw [Nat.testBit_and]
theorem withN_bit (s : Nat) (f : Nat → Int) {i : Nat} (hi : i < 64) : ∀ n, (withN s f n).testBit i = (s.testBit i || anyN f i n)
  | 0 => by simp [withN, anyN]
  | n + 1 => by
    have ih := withN_bit s f hi n
    simp only [withN, anyN, addN]
    split
    · rename_i h
      rw [Nat.testBit_or, ih, Nat.testBit_two_pow, Bool.or_assoc]
      congr 2
      rw [decide_eq_decide]
      omega
    · rename_i h
      rw [ih]
      have : decide (f n = (i : Int)) = false := decide_eq_false (by omega)
      rw [this, Bool.or_false]
theorem addN_lt {s : Nat} (x : Int) (hs : s < 18446744073709551616) : addN s x < 18446744073709551616 := by
  unfold addN
  split
  · rename_i h
    have hp : 2 ^ x.toNat < 2 ^ 64 := Nat.pow_lt_pow_right (by omega) (by omega)
    rw [show (18446744073709551616 : Nat) = 2 ^ 64 by decide] at *
    exact Nat.or_lt_two_pow hs hp
  · exact hs
theorem withN_lt {s : Nat} (f : Nat → Int) (hs : s < 18446744073709551616) : ∀ n, withN s f n < 18446744073709551616
  | 0 => hs
  | n + 1 => addN_lt _ (withN_lt f hs n)
theorem withN_congr (s : Nat) {f g : Nat → Int} : ∀ {n : Nat}, (∀ i, i < n → f i = g i) → withN s f n = withN s g n
  | 0, _ => rfl
  | n + 1, h => by
    simp only [withN]
    rw [withN_congr s (fun i hi => h i (by omega)), h n (by omega)]
theorem testBit_div (s i : Nat) : s.testBit i = decide (s / 2 ^ i % 2 = 1) := Nat.testBit_eq_decide_div_mod_eq
theorem hasF_nat {s i : Nat} (hi : i < 64) : hasF (s : Int) (i : Int) = s.testBit i := by
  simp only [hasF, Int.toNat_natCast]
  have h1 : decide ((0 : Int) ≤ (i : Int)) = true := decide_eq_true (by omega)
  have h2 : decide ((i : Int) < 64) = true := decide_eq_true (by omega)
  rw [h1, h2]; rfl
theorem take_count {l : List Nat} {p : Nat → Bool} {i : Nat} (hi : i < l.length) : (l.take (i + 1)).countP p = (l.take i).countP p + (if p (l[i]?.getD 0) then 1 else 0) := by
  rw [List.take_add_one, List.countP_append, List.getElem?_eq_getElem hi]
  simp [List.countP_cons, List.countP_nil]
/-! ### Numbers -/
theorem wrapu {m : Nat} (h : m < 18446744073709551616) : IntKind.u64.wrap (m : Int) = (m : Int) := by
  have e : IntKind.u64.wrap (m : Int) = (m : Int) % 18446744073709551616 := by
    unfold IntKind.wrap
    simp [IntKind.bits, IntKind.signed]
  rw [e]; omega
theorem wrapi {m : Nat} (h : m < 9223372036854775808) : IntKind.i64.wrap (m : Int) = (m : Int) := by
  have e : IntKind.i64.wrap (m : Int) = if (m : Int) % 18446744073709551616 ≥ 9223372036854775808 then (m : Int) % 18446744073709551616 - 18446744073709551616 else (m : Int) % 18446744073709551616 := by
    unfold IntKind.wrap
    simp [IntKind.bits, IntKind.signed]
  rw [e]
  split <;> omega
theorem p64 : (18446744073709551616 : Nat) = 2 ^ 64 := by decide
theorem and_lt {a b : Nat} (h : a < 18446744073709551616) : a &&& b < 18446744073709551616 := Nat.lt_of_le_of_lt Nat.and_le_left h
theorem or_lt {a b : Nat} (h : a < 18446744073709551616) (h' : b < 18446744073709551616) : a ||| b < 18446744073709551616 := by
  rw [p64] at *
  exact Nat.or_lt_two_pow h h'
theorem vec {a : Nat} (h : a < 18446744073709551616) : (BitVec.ofInt 64 (a : Int)).toNat = a := by
  rw [BitVec.toNat_ofInt]
  have : ((2 ^ 64 : Nat) : Int) = 18446744073709551616 := by rw [← p64]; rfl
  rw [this]; omega
theorem band {a b : Nat} (ha : a < 18446744073709551616) (hb : b < 18446744073709551616) : bitsR .and .u64 (a : Int) (b : Int) = ((a &&& b : Nat) : Int) := by
  simp only [bitsR, bits2]
  show IntKind.u64.wrap (((BitVec.ofInt 64 (a : Int) &&& BitVec.ofInt 64 (b : Int)).toNat : Nat) : Int) = _
  rw [BitVec.toNat_and, vec ha, vec hb, wrapu (and_lt ha)]
theorem bor {a b : Nat} (ha : a < 18446744073709551616) (hb : b < 18446744073709551616) : bitsR .or .u64 (a : Int) (b : Int) = ((a ||| b : Nat) : Int) := by
  simp only [bitsR, bits2]
  show IntKind.u64.wrap (((BitVec.ofInt 64 (a : Int) ||| BitVec.ofInt 64 (b : Int)).toNat : Nat) : Int) = _
  rw [BitVec.toNat_or, vec ha, vec hb, wrapu (or_lt ha hb)]
theorem bandi {a b : Nat} (ha : a < 9223372036854775808) (hb : b < 9223372036854775808) : bitsR .and .i64 (a : Int) (b : Int) = ((a &&& b : Nat) : Int) := by
  simp only [bitsR, bits2]
  show IntKind.i64.wrap (((BitVec.ofInt 64 (a : Int) &&& BitVec.ofInt 64 (b : Int)).toNat : Nat) : Int) = _
  rw [BitVec.toNat_and, vec (by omega), vec (by omega), wrapi (Nat.lt_of_le_of_lt Nat.and_le_left ha)]
theorem fdiv_nat (y d : Nat) : Int.fdiv (y : Int) (d : Int) = ((y / d : Nat) : Int) := by
  rw [Int.fdiv_eq_ediv_of_nonneg _ (by omega)]; rfl
theorem s1 {x : Nat} (hx : x < 18446744073709551616) (h1 : n1 x < 18446744073709551616) : IntKind.u64.wrap (bitsR .and .u64 (Int.fdiv (x : Int) (2 ^ min (Int.toNat 1) IntKind.u64.bits)) 6148914691236517205 + bitsR .and .u64 (x : Int) 6148914691236517205) = ((n1 x : Nat) : Int) := by
  have e : (2 : Int) ^ min (Int.toNat 1) IntKind.u64.bits = ((2 : Nat) : Int) := by decide
  have c : (6148914691236517205 : Int) = ((6148914691236517205 : Nat) : Int) := rfl
  rw [e, fdiv_nat, c, band (by omega) (by omega), band hx (by omega)]
  have := wrapu h1
  rw [← this]
  unfold n1
  rw [Int.natCast_add]
theorem s2 {x : Nat} (hx : x < 18446744073709551616) (h1 : n2 x < 18446744073709551616) : IntKind.u64.wrap (bitsR .and .u64 (Int.fdiv (x : Int) (2 ^ min (Int.toNat 2) IntKind.u64.bits)) 3689348814741910323 + bitsR .and .u64 (x : Int) 3689348814741910323) = ((n2 x : Nat) : Int) := by
  have e : (2 : Int) ^ min (Int.toNat 2) IntKind.u64.bits = ((4 : Nat) : Int) := by decide
  have c : (3689348814741910323 : Int) = ((3689348814741910323 : Nat) : Int) := rfl
  rw [e, fdiv_nat, c, band (by omega) (by omega), band hx (by omega)]
  have := wrapu h1
  rw [← this]
  unfold n2
  rw [Int.natCast_add]
theorem s4 {x : Nat} (hx : x / 16 + x < 18446744073709551616) : bitsR .and .u64 (IntKind.u64.wrap (Int.fdiv (x : Int) (2 ^ min (Int.toNat 4) IntKind.u64.bits) + (x : Int))) 1085102592571150095 = ((n4 x : Nat) : Int) := by
  have e : (2 : Int) ^ min (Int.toNat 4) IntKind.u64.bits = ((16 : Nat) : Int) := by decide
  have c : (1085102592571150095 : Int) = ((1085102592571150095 : Nat) : Int) := rfl
  rw [e, fdiv_nat, c, ← Int.natCast_add, wrapu hx, band hx (by omega)]
  rfl
theorem s8 {x : Nat} (h1 : n8 x < 18446744073709551616) : IntKind.u64.wrap ((x : Int) + Int.fdiv (x : Int) (2 ^ min (Int.toNat 8) IntKind.u64.bits)) = ((n8 x : Nat) : Int) := by
  have e : (2 : Int) ^ min (Int.toNat 8) IntKind.u64.bits = ((256 : Nat) : Int) := by decide
  rw [e, fdiv_nat, ← Int.natCast_add]
  exact wrapu h1
theorem s16 {x : Nat} (h1 : n16 x < 18446744073709551616) : IntKind.u64.wrap ((x : Int) + Int.fdiv (x : Int) (2 ^ min (Int.toNat 16) IntKind.u64.bits)) = ((n16 x : Nat) : Int) := by
  have e : (2 : Int) ^ min (Int.toNat 16) IntKind.u64.bits = ((65536 : Nat) : Int) := by decide
  rw [e, fdiv_nat, ← Int.natCast_add]
  exact wrapu h1
theorem s32 {x : Nat} (h1 : n32 x < 18446744073709551616) : IntKind.u64.wrap ((x : Int) + Int.fdiv (x : Int) (2 ^ min (Int.toNat 32) IntKind.u64.bits)) = ((n32 x : Nat) : Int) := by
  have e : (2 : Int) ^ min (Int.toNat 32) IntKind.u64.bits = ((4294967296 : Nat) : Int) := by decide
  rw [e, fdiv_nat, ← Int.natCast_add]
  exact wrapu h1
theorem s7 {x : Nat} (h : x < 9223372036854775808) : bitsR .and .i64 (IntKind.i64.wrap (x : Int)) 127 = ((x % 128 : Nat) : Int) := by
  have c : (127 : Int) = ((127 : Nat) : Int) := rfl
  rw [wrapi h, c, bandi h (by omega)]
  have := Nat.and_two_pow_sub_one_eq_mod x 7
  rw [show (2 : Nat) ^ 7 - 1 = 127 from rfl, show (2 : Nat) ^ 7 = 128 from rfl] at this
  rw [this]
theorem more_is {c n : Nat} (hc : c < 18446744073709551616) (hn : n < 64) : bitsR .or .u64 (c : Int) (IntKind.u64.wrap (1 * 2 ^ min (Int.toNat (n : Int)) IntKind.u64.bits)) = ((c ||| 2 ^ n : Nat) : Int) ∧ c ||| 2 ^ n < 18446744073709551616 := by
  have hp : 2 ^ n < 18446744073709551616 := by
    rw [p64]; exact Nat.pow_lt_pow_right (by omega) hn
  have hw : IntKind.u64.wrap (1 * 2 ^ min (Int.toNat (n : Int)) IntKind.u64.bits) = ((2 ^ n : Nat) : Int) := by
    have e : min (Int.toNat (n : Int)) IntKind.u64.bits = n := by
      rw [Int.toNat_natCast, show IntKind.u64.bits = 64 from rfl]; omega
    rw [e, Int.one_mul]
    have e2 : ((2 : Int) ^ n) = ((2 ^ n : Nat) : Int) := by rw [Int.natCast_pow]; rfl
    rw [e2]; exact wrapu hp
  rw [hw]
  exact ⟨bor hc hp, or_lt hc hp⟩
theorem rng_of {x : Int} (h : rngV x = true) : ∃ n : Nat, x = n ∧ n < 18446744073709551616 := by
  rw [rngV_eq] at h
  simp only [rng, Bool.and_eq_true, decide_eq_true_eq] at h
  obtain ⟨n, rfl⟩ := Int.eq_ofNat_of_zero_le h.1
  exact ⟨n, rfl, by omega⟩
theorem rng_nat {a : Nat} (h : a < 18446744073709551616) : rngV (a : Int) = true := by
  rw [rngV_eq]
  simp only [rng, Bool.and_eq_true, decide_eq_true_eq]; omega
theorem rng_int {x : Int} (h : 0 ≤ x) (h' : x < 18446744073709551616) : rngV x = true := by
  rw [rngV_eq]
  simp only [rng, Bool.and_eq_true, decide_eq_true_eq]; omega
theorem ble_t {n m : Nat} (h : n ≤ m) : Nat.ble n m = true := Nat.ble_eq_true_of_le h
theorem ble_f {n m : Nat} (h : ¬ n ≤ m) : Nat.ble n m = false := by rw [ble_iff, decide_eq_false h]
theorem le_of {n m : Nat} (h : Nat.ble n m = true) : n ≤ m := Nat.le_of_ble_eq_true h
theorem growt {n : Nat} (h : n ≤ 2000000) : growB 8 n = true := by
  unfold growB
  rw [ble_t (show n ≤ 281474976710656 by omega), ble_t (show n * 8 ≤ 17179869184 by omega)]; rfl
theorem lt1 {i n : Nat} (h : i < n) : decide ((i : Int) < (n : Int)) = true := decide_eq_true (by omega)
theorem lt0 (n : Nat) : decide ((n : Int) < (n : Int)) = false := decide_eq_false (by omega)
theorem blt_t {n m : Nat} (h : n < m) : Nat.blt n m = true := by rw [blt_iff]; exact decide_eq_true h
theorem not_lt {a b : Int} (h : (!(decide (a < b))) = true) : b ≤ a := by
  cases hd : decide (a < b) with
  | true => rw [hd] at h; cases h
  | false => have := of_decide_eq_false hd; omega
theorem not_gt {a b : Int} (h : (!(decide (a > b))) = true) : a ≤ b := by
  cases hd : decide (a > b) with
  | true => rw [hd] at h; cases h
  | false => have := of_decide_eq_false hd; omega
theorem hasF_out {s nd : Int} (h : nd < 0 ∨ nd > 63) : hasF s nd = false := by
  unfold hasF
  rcases h with h | h
  · rw [decide_eq_false (show ¬ 0 ≤ nd by omega)]; rfl
  · rw [decide_eq_false (show ¬ nd < 64 by omega), Bool.and_false]; rfl
theorem ctF_le (s : Int) (g : Nat → Nat → AV) (n : Nat) : ctF s g n ≤ n := by
  unfold ctF
  exact Nat.le_trans List.countP_le_length (by simp)
theorem ctF_succ (s : Int) (g : Nat → Nat → AV) (n : Nat) : ctF s g (n + 1) = ctF s g n + cond (hasF s (g n 0).toI) 1 0 := by
  unfold ctF
  rw [List.range_succ, List.countP_append]
  cases h : hasF s (g n 0).toI <;> simp [List.countP_cons, h]
theorem countP_at {l : List Nat} (p : Nat → Bool) : ∀ n, n ≤ l.length → ((List.range n).countP fun i => p (l[i]?.getD 0)) = (l.take n).countP p
  | 0, _ => by simp
  | n + 1, h => by
    rw [List.range_succ, List.countP_append, countP_at p n (by omega), take_count (show n < l.length by omega)]
    cases hp : p (l[n]?.getD 0) <;> simp [List.countP_cons, hp]
/-- How many of a set's members another one has. -/
theorem ct_mem (s q : Nat) : ctF (s : Int) (memA (q : Int)) (cntF (q : Int)) = popN 64 (s &&& q) := by
  rw [← both_pop]
  unfold ctF cntF
  simp only [Int.toNat_natCast]
  have h := countP_at (l := mems q 64) (fun j => s.testBit j) (mems q 64).length (Nat.le_refl _)
  rw [List.take_length] at h
  rw [← h]
  refine List.countP_congr fun i hi => ?_
  have hi := List.mem_range.1 hi
  have hm : (mems q 64)[i]?.getD 0 < 64 := by
    rw [List.getElem?_eq_getElem hi]
    exact mems_lt (List.getElem_mem hi)
  show hasF (s : Int) (((mems (q : Int).toNat 64)[i]?.getD 0 : Nat) : Int) = true ↔ _
  rw [Int.toNat_natCast, hasF_nat hm]
end Go.Proofs.Ytckpljmiodgejaa.quorumTells
