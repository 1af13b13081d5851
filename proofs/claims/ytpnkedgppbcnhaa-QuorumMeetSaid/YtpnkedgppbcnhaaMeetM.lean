/- How many bits a number has: what 'OnesCount64' reckons is that; two sets' bits. Plain numbers, no program. -/
import Derived.Test.YtpnkedgppbcnhaaAmVd
set_option linter.unusedSimpArgs false
set_option linter.unusedVariables false
namespace Go.Proofs.Ytpnkedgppbcnhaa.quorumMeet

/-- The bits of the first k places. -/
def popN : Nat → Nat → Nat
  | 0, _ => 0
  | k + 1, x => x % 2 + popN k (x / 2)
theorem popN_zero : ∀ k, popN k 0 = 0
  | 0 => rfl
  | k + 1 => by simp only [popN]; rw [popN_zero k]
theorem popN_le : ∀ k x, popN k x ≤ k
  | 0, _ => Nat.le_refl _
  | k + 1, x => by
    have := popN_le k (x / 2)
    simp only [popN]; omega
theorem and2 (u v : Nat) : (u &&& v) % 2 = (u % 2) * (v % 2) := by
  have := Nat.and_mod_two_pow (a := u) (b := v) (n := 1)
  simp only [Nat.pow_one] at this
  rw [this]
  rcases Nat.mod_two_eq_zero_or_one u with h | h <;> rcases Nat.mod_two_eq_zero_or_one v with h' | h' <;> rw [h, h'] <;> rfl
theorem or2 (u v : Nat) : (u ||| v) % 2 + (u % 2) * (v % 2) = u % 2 + v % 2 := by
  have := Nat.or_mod_two_pow (a := u) (b := v) (n := 1)
  simp only [Nat.pow_one] at this
  rw [this]
  rcases Nat.mod_two_eq_zero_or_one u with h | h <;> rcases Nat.mod_two_eq_zero_or_one v with h' | h' <;> rw [h, h'] <;> rfl
theorem popN_add : ∀ k u v, popN k (u &&& v) + popN k (u ||| v) = popN k u + popN k v
  | 0, _, _ => rfl
  | k + 1, u, v => by
    have h := popN_add k (u / 2) (v / 2)
    have h1 := and2 u v
    have h2 := or2 u v
    simp only [popN, Nat.and_div_two, Nat.or_div_two]
    rw [h1]; omega
theorem popN_and_le (k u v : Nat) : popN k (u &&& v) ≤ popN k v := by
  induction k generalizing u v with
  | zero => exact Nat.le_refl _
  | succ k ih =>
    have h := ih (u / 2) (v / 2)
    have h1 := and2 u v
    simp only [popN, Nat.and_div_two]
    rw [h1]
    rcases Nat.mod_two_eq_zero_or_one u with h | h <;> rcases Nat.mod_two_eq_zero_or_one v with h' | h' <;> rw [h, h'] <;> omega
theorem popN_pow : ∀ k n, popN k (2 ^ n) ≤ 1
  | 0, _ => Nat.zero_le _
  | k + 1, 0 => by simp only [popN]; rw [show (2 : Nat) ^ 0 / 2 = 0 from rfl, popN_zero]; decide
  | k + 1, n + 1 => by
    have h := popN_pow k n
    simp only [popN]
    have e : 2 ^ (n + 1) = 2 ^ n * 2 := Nat.pow_succ 2 n
    rw [show 2 ^ (n + 1) / 2 = 2 ^ n by omega, show 2 ^ (n + 1) % 2 = 0 by omega]
    omega
theorem popN_join : ∀ j k b X, b < 2 ^ j → popN (j + k) (b + 2 ^ j * X) = popN j b + popN k X
  | 0, k, b, X, h => by
    have : b = 0 := by simpa using h
    subst this
    simp [popN]
  | j + 1, k, b, X, h => by
    have e : 2 ^ (j + 1) = 2 ^ j * 2 := Nat.pow_succ 2 j
    have ih := popN_join j k (b / 2) X (by omega)
    rw [show j + 1 + k = (j + k) + 1 by omega]
    simp only [popN]
    have e2 : 2 ^ (j + 1) * X = 2 * (2 ^ j * X) := by rw [e, Nat.mul_right_comm, Nat.mul_comm]
    rw [e2, show (b + 2 * (2 ^ j * X)) / 2 = b / 2 + 2 ^ j * X by omega, ih, show (b + 2 * (2 ^ j * X)) % 2 = b % 2 by omega]
    omega

/-! ### Two majorities -/
theorem meet_one {a b c : Nat} (h1 : 2 * popN 64 (a &&& c) > popN 64 c) (h2 : 2 * popN 64 (b &&& c) > popN 64 c) : a &&& b &&& c ≠ 0 := by
  intro h0
  have h3 := popN_add 64 (a &&& c) (b &&& c)
  have e1 : (a &&& c) &&& (b &&& c) = 0 := by
    have : (a &&& c) &&& (b &&& c) = (a &&& b &&& c) &&& c := by
      apply Nat.eq_of_testBit_eq; intro i; simp only [Nat.testBit_and]
      cases a.testBit i <;> cases b.testBit i <;> cases c.testBit i <;> rfl
    rw [this, h0]; exact Nat.zero_and c
  have e2 : (a &&& c) ||| (b &&& c) = (a ||| b) &&& c := by
    apply Nat.eq_of_testBit_eq; intro i; simp only [Nat.testBit_and, Nat.testBit_or]
    cases a.testBit i <;> cases b.testBit i <;> cases c.testBit i <;> rfl
  rw [e1, e2, popN_zero] at h3
  have := popN_and_le 64 (a ||| b) c
  omega
theorem meet_more {a b c m : Nat} (hm : c &&& m = c) (hp : popN 64 m ≤ popN 64 c + 1) (h1 : 2 * popN 64 (a &&& c) > popN 64 c) (h2 : 2 * popN 64 (b &&& m) > popN 64 m) : a &&& b &&& m ≠ 0 := by
  intro h0
  have h3 := popN_add 64 (a &&& c) (b &&& m)
  have hbit : ∀ i, c.testBit i = true → m.testBit i = true := fun i hi => by
    have := congrArg (fun z => z.testBit i) hm
    simp only [Nat.testBit_and, hi, Bool.true_and] at this
    exact this
  have e1 : (a &&& c) &&& (b &&& m) = 0 := by
    have : (a &&& c) &&& (b &&& m) = (a &&& b &&& m) &&& c := by
      apply Nat.eq_of_testBit_eq; intro i; simp only [Nat.testBit_and]
      cases a.testBit i <;> cases b.testBit i <;> cases c.testBit i <;> cases m.testBit i <;> rfl
    rw [this, h0]; exact Nat.zero_and c
  have e2 : (a &&& c) ||| (b &&& m) = ((a &&& c) ||| b) &&& m := by
    apply Nat.eq_of_testBit_eq; intro i
    have := hbit i
    simp only [Nat.testBit_and, Nat.testBit_or]
    cases hc : c.testBit i with
    | true => rw [this hc]; cases a.testBit i <;> cases b.testBit i <;> rfl
    | false => cases a.testBit i <;> cases b.testBit i <;> cases m.testBit i <;> rfl
  rw [e1, e2, popN_zero] at h3
  have := popN_and_le 64 ((a &&& c) ||| b) m
  omega
theorem sub_or (c p : Nat) : c &&& (c ||| p) = c := by
  apply Nat.eq_of_testBit_eq; intro i; simp only [Nat.testBit_and, Nat.testBit_or]
  cases c.testBit i <;> cases p.testBit i <;> rfl
theorem pop_or (c n : Nat) : popN 64 (c ||| 2 ^ n) ≤ popN 64 c + 1 := by
  have := popN_add 64 c (2 ^ n)
  have := popN_pow 64 n
  omega

/-! ### Bytes -/
def cat : List Nat → Nat
  | [] => 0
  | b :: bs => b + 256 * cat bs
def digits : Nat → Nat → List Nat
  | 0, _ => []
  | k + 1, x => x % 256 :: digits k (x / 256)
theorem cat_digits : ∀ k x, x < 256 ^ k → cat (digits k x) = x
  | 0, x, h => by simp at h; simp [digits, cat, h]
  | k + 1, x, h => by
    have e : 256 ^ (k + 1) = 256 ^ k * 256 := Nat.pow_succ 256 k
    simp only [digits, cat]
    rw [cat_digits k (x / 256) (by omega)]
    omega
theorem digits_lt : ∀ k x, ∀ b ∈ digits k x, b < 256
  | 0, x, b, h => by simp [digits] at h
  | k + 1, x, b, h => by
    simp only [digits, List.mem_cons] at h
    rcases h with rfl | h
    · omega
    · exact digits_lt k _ b h
theorem digits_length : ∀ k x, (digits k x).length = k
  | 0, x => rfl
  | k + 1, x => by simp [digits, digits_length k]
theorem land_cons {a c : Nat} (ha : a < 256) (hc : c < 256) (X Y : Nat) : (a + 256 * X) &&& (c + 256 * Y) = (a &&& c) + 256 * (X &&& Y) := by
  have h1 := Nat.and_mod_two_pow (a := a + 256 * X) (b := c + 256 * Y) (n := 8)
  have h2 := Nat.and_div_two_pow (a := a + 256 * X) (b := c + 256 * Y) (n := 8)
  rw [show (2 : Nat) ^ 8 = 256 from rfl] at h1 h2
  rw [show (a + 256 * X) % 256 = a by omega, show (c + 256 * Y) % 256 = c by omega] at h1
  rw [show (a + 256 * X) / 256 = X by omega, show (c + 256 * Y) / 256 = Y by omega] at h2
  have := Nat.div_add_mod ((a + 256 * X) &&& (c + 256 * Y)) 256
  rw [h1, h2] at this
  omega
/-- A mask of one byte again and again. -/
theorem land_mask {m : Nat} (hm : m < 256) : ∀ bs : List Nat, (∀ b ∈ bs, b < 256) → cat bs &&& cat (List.replicate bs.length m) = cat (bs.map fun b => b &&& m)
  | [], _ => by simp [cat]
  | b :: bs, h => by
    simp only [List.length_cons, List.replicate_succ, cat, List.map_cons]
    rw [land_cons (h b (by simp)) hm, land_mask hm bs (fun c hc => h c (by simp [hc]))]
theorem cat_add : ∀ (f g : Nat → Nat) (bs : List Nat), cat (bs.map f) + cat (bs.map g) = cat (bs.map fun b => f b + g b)
  | _, _, [] => rfl
  | f, g, b :: bs => by
    simp only [List.map_cons, cat]
    rw [← cat_add f g bs]; omega
theorem cat_zip : ∀ (as bs : List Nat), as.length = bs.length → cat as + cat bs = cat (List.zipWith (· + ·) as bs)
  | [], [], _ => rfl
  | a :: as, b :: bs, h => by
    simp only [List.zipWith_cons_cons, cat]
    rw [← cat_zip as bs (by simpa using h)]; omega
  | [], _ :: _, h => by simp at h
  | _ :: _, [], h => by simp at h
def sh1 : List Nat → List Nat
  | [] => []
  | [b] => [b / 2]
  | b :: c :: r => (b / 2 + 128 * (c % 2)) :: sh1 (c :: r)
theorem cat_sh1 : ∀ bs, cat bs / 2 = cat (sh1 bs)
  | [] => rfl
  | [b] => by simp [sh1, cat]
  | b :: c :: r => by
    have ih := cat_sh1 (c :: r)
    simp only [sh1, cat] at ih ⊢
    rw [← ih]; omega
def sh2 : List Nat → List Nat
  | [] => []
  | [b] => [b / 4]
  | b :: c :: r => (b / 4 + 64 * (c % 4)) :: sh2 (c :: r)
theorem cat_sh2 : ∀ bs, cat bs / 4 = cat (sh2 bs)
  | [] => rfl
  | [b] => by simp [sh2, cat]
  | b :: c :: r => by
    have ih := cat_sh2 (c :: r)
    simp only [sh2, cat] at ih ⊢
    rw [← ih]; omega
def sh4 : List Nat → List Nat
  | [] => []
  | [b] => [b / 16]
  | b :: c :: r => (b / 16 + 16 * (c % 16)) :: sh4 (c :: r)
theorem cat_sh4 : ∀ bs, cat bs / 16 = cat (sh4 bs)
  | [] => rfl
  | [b] => by simp [sh4, cat]
  | b :: c :: r => by
    have ih := cat_sh4 (c :: r)
    simp only [sh4, cat] at ih ⊢
    rw [← ih]; omega

def g1 (b : Nat) : Nat := ((b / 2) &&& 85) + (b &&& 85)
def g2 (b : Nat) : Nat := ((b / 4) &&& 51) + (b &&& 51)
def g4 (b : Nat) : Nat := (b / 16 + b) &&& 15
theorem d1 : ∀ b, b < 256 → ∀ t, t < 2 → (b / 2 + 128 * t) &&& 85 = (b / 2) &&& 85 ∧ b / 2 + 128 * t < 256 := by decide +kernel
theorem d2 : ∀ b, b < 256 → ∀ t, t < 4 → (b / 4 + 64 * t) &&& 51 = (b / 4) &&& 51 ∧ b / 4 + 64 * t < 256 := by decide +kernel
theorem d4 : ∀ b, b < 256 → g1 b < 256 ∧ g2 (g1 b) < 69 ∧ g2 (g1 b) % 16 ≤ 4 ∧ g4 (g2 (g1 b)) = popN 8 b := by decide +kernel
theorem d5 : ∀ b, b < 69 → ∀ t, t < 5 → (b / 16 + 16 * t + b) &&& 15 = g4 b ∧ b / 16 + 16 * t + b < 256 := by decide +kernel

theorem mask_sh1 : ∀ bs : List Nat, (∀ b ∈ bs, b < 256) → (∀ b ∈ sh1 bs, b < 256) ∧ (sh1 bs).length = bs.length ∧ (sh1 bs).map (fun b => b &&& 85) = bs.map (fun b => (b / 2) &&& 85)
  | [], _ => ⟨by simp [sh1], rfl, rfl⟩
  | [b], h => by
    have := h b (by simp)
    exact ⟨by simp only [sh1, List.mem_singleton]; intro c hc; omega, rfl, rfl⟩
  | b :: c :: r, h => by
    obtain ⟨i1, i2, i3⟩ := mask_sh1 (c :: r) (fun x hx => h x (by simp at hx ⊢; exact .inr hx))
    have hd := d1 b (h b (by simp)) (c % 2) (by omega)
    refine ⟨fun x hx => ?_, by simp only [sh1, List.length_cons] at i2 ⊢; omega, ?_⟩
    · simp only [sh1, List.mem_cons] at hx
      rcases hx with rfl | hx
      · exact hd.2
      · exact i1 x hx
    · simp only [sh1, List.map_cons] at i3 ⊢
      rw [i3, hd.1]
theorem mask_sh2 : ∀ bs : List Nat, (∀ b ∈ bs, b < 256) → (∀ b ∈ sh2 bs, b < 256) ∧ (sh2 bs).length = bs.length ∧ (sh2 bs).map (fun b => b &&& 51) = bs.map (fun b => (b / 4) &&& 51)
  | [], _ => ⟨by simp [sh2], rfl, rfl⟩
  | [b], h => by
    have := h b (by simp)
    exact ⟨by simp only [sh2, List.mem_singleton]; intro c hc; omega, rfl, rfl⟩
  | b :: c :: r, h => by
    obtain ⟨i1, i2, i3⟩ := mask_sh2 (c :: r) (fun x hx => h x (by simp at hx ⊢; exact .inr hx))
    have hd := d2 b (h b (by simp)) (c % 4) (by omega)
    refine ⟨fun x hx => ?_, by simp only [sh2, List.length_cons] at i2 ⊢; omega, ?_⟩
    · simp only [sh2, List.mem_cons] at hx
      rcases hx with rfl | hx
      · exact hd.2
      · exact i1 x hx
    · simp only [sh2, List.map_cons] at i3 ⊢
      rw [i3, hd.1]
theorem mask_sh4 : ∀ bs : List Nat, (∀ b ∈ bs, b < 69 ∧ b % 16 ≤ 4) → (∀ b ∈ List.zipWith (· + ·) (sh4 bs) bs, b < 256) ∧ (sh4 bs).length = bs.length ∧ (List.zipWith (· + ·) (sh4 bs) bs).map (fun b => b &&& 15) = bs.map g4
  | [], _ => ⟨by simp [sh4], rfl, rfl⟩
  | [b], h => by
    have hb := h b (by simp)
    have hd := d5 b hb.1 0 (by omega)
    simp only [Nat.mul_zero, Nat.add_zero] at hd
    refine ⟨fun x hx => ?_, rfl, ?_⟩
    · simp only [sh4, List.zipWith_cons_cons, List.zipWith_nil_left, List.mem_singleton] at hx
      rw [hx]; exact hd.2
    · simp only [sh4, List.zipWith_cons_cons, List.zipWith_nil_left, List.map_cons, List.map_nil]
      rw [hd.1]
  | b :: c :: r, h => by
    obtain ⟨i1, i2, i3⟩ := mask_sh4 (c :: r) (fun x hx => h x (by simp at hx ⊢; exact .inr hx))
    have hb := h b (by simp)
    have hc := h c (by simp)
    have hd := d5 b hb.1 (c % 16) (by omega)
    refine ⟨fun x hx => ?_, by simp only [sh4, List.length_cons] at i2 ⊢; omega, ?_⟩
    · simp only [sh4, List.zipWith_cons_cons, List.mem_cons] at hx
      rcases hx with rfl | hx
      · exact hd.2
      · exact i1 x (by simpa only [sh4] using hx)
    · simp only [sh4, List.zipWith_cons_cons, List.map_cons] at i3 ⊢
      rw [hd.1, i3]

def n1 (x : Nat) : Nat := ((x / 2) &&& 6148914691236517205) + (x &&& 6148914691236517205)
def n2 (x : Nat) : Nat := ((x / 4) &&& 3689348814741910323) + (x &&& 3689348814741910323)
def n4 (x : Nat) : Nat := (x / 16 + x) &&& 1085102592571150095
def n8 (x : Nat) : Nat := x + x / 256
def n16 (x : Nat) : Nat := x + x / 65536
def n32 (x : Nat) : Nat := x + x / 4294967296

theorem n1_cat (bs : List Nat) (hl : bs.length = 8) (h : ∀ b ∈ bs, b < 256) : n1 (cat bs) = cat (bs.map g1) := by
  obtain ⟨i1, i2, i3⟩ := mask_sh1 bs h
  have m : 6148914691236517205 = cat (List.replicate 8 85) := by decide
  unfold n1
  rw [m, cat_sh1, show (8 : Nat) = (sh1 bs).length by omega, land_mask (by omega) _ i1, i3, i2, land_mask (by omega) _ h, cat_add]
  rfl
theorem n2_cat (bs : List Nat) (hl : bs.length = 8) (h : ∀ b ∈ bs, b < 256) : n2 (cat bs) = cat (bs.map g2) := by
  obtain ⟨i1, i2, i3⟩ := mask_sh2 bs h
  have m : 3689348814741910323 = cat (List.replicate 8 51) := by decide
  unfold n2
  rw [m, cat_sh2, show (8 : Nat) = (sh2 bs).length by omega, land_mask (by omega) _ i1, i3, i2, land_mask (by omega) _ h, cat_add]
  rfl
theorem n4_cat (bs : List Nat) (hl : bs.length = 8) (h : ∀ b ∈ bs, b < 69 ∧ b % 16 ≤ 4) : n4 (cat bs) = cat (bs.map g4) := by
  obtain ⟨i1, i2, i3⟩ := mask_sh4 bs h
  have m : 1085102592571150095 = cat (List.replicate 8 15) := by decide
  have hz : (List.zipWith (· + ·) (sh4 bs) bs).length = 8 := by rw [List.length_zipWith]; omega
  unfold n4
  rw [m, cat_sh4, cat_zip _ _ i2]
  have := land_mask (m := 15) (by omega) _ i1
  rw [hz] at this
  rw [this, i3]

theorem last_steps {pa pb pc pd pe pf pg ph : Nat} (la : pa ≤ 8) (lb : pb ≤ 8) (lc : pc ≤ 8) (ld : pd ≤ 8) (le : pe ≤ 8) (lf : pf ≤ 8) (lg : pg ≤ 8) (lh : ph ≤ 8) {z : Nat} (hz : z = pa + 256 * (pb + 256 * (pc + 256 * (pd + 256 * (pe + 256 * (pf + 256 * (pg + 256 * ph))))))) :
    n8 z < 18446744073709551616 ∧ n16 (n8 z) < 18446744073709551616 ∧ n32 (n16 (n8 z)) < 9223372036854775808 ∧ n32 (n16 (n8 z)) % 128 = pa + (pb + (pc + (pd + (pe + (pf + (pg + ph)))))) := by
  subst hz
  have e8 : n8 (pa + 256 * (pb + 256 * (pc + 256 * (pd + 256 * (pe + 256 * (pf + 256 * (pg + 256 * ph))))))) = (pa + pb) + 256 * ((pb + pc) + 256 * ((pc + pd) + 256 * ((pd + pe) + 256 * ((pe + pf) + 256 * ((pf + pg) + 256 * ((pg + ph) + 256 * ph)))))) := by
    unfold n8; omega
  have e16 : n16 ((pa + pb) + 256 * ((pb + pc) + 256 * ((pc + pd) + 256 * ((pd + pe) + 256 * ((pe + pf) + 256 * ((pf + pg) + 256 * ((pg + ph) + 256 * ph))))))) =
      (pa + pb + pc + pd) + 256 * ((pb + pc + pd + pe) + 256 * ((pc + pd + pe + pf) + 256 * ((pd + pe + pf + pg) + 256 * ((pe + pf + pg + ph) + 256 * ((pf + pg + ph) + 256 * ((pg + ph) + 256 * ph)))))) := by
    unfold n16; omega
  rw [e8, e16]
  have e32 : n32 ((pa + pb + pc + pd) + 256 * ((pb + pc + pd + pe) + 256 * ((pc + pd + pe + pf) + 256 * ((pd + pe + pf + pg) + 256 * ((pe + pf + pg + ph) + 256 * ((pf + pg + ph) + 256 * ((pg + ph) + 256 * ph))))))) =
      (pa + pb + pc + pd + pe + pf + pg + ph) + 256 * ((pb + pc + pd + pe + pf + pg + ph) + 256 * ((pc + pd + pe + pf + pg + ph) + 256 * ((pd + pe + pf + pg + ph) + 256 * ((pe + pf + pg + ph) + 256 * ((pf + pg + ph) + 256 * ((pg + ph) + 256 * ph)))))) := by
    unfold n32; omega
  rw [e32]
  clear e8 e16 e32
  refine ⟨by omega, by omega, by omega, ?_⟩
  generalize hY : ((pb + pc + pd + pe + pf + pg + ph) + 256 * ((pc + pd + pe + pf + pg + ph) + 256 * ((pd + pe + pf + pg + ph) + 256 * ((pe + pf + pg + ph) + 256 * ((pf + pg + ph) + 256 * ((pg + ph) + 256 * ph)))))) = Y
  clear hY
  omega

theorem list8 {α : Type} : ∀ l : List α, l.length = 8 → ∃ a b c d e f g h, l = [a, b, c, d, e, f, g, h]
  | [a, b, c, d, e, f, g, h], _ => ⟨_, _, _, _, _, _, _, _, rfl⟩
theorem steps (x : Nat) (hx : x < 18446744073709551616) : n1 x < 18446744073709551616 ∧ n2 (n1 x) < 18446744073709551616 ∧ n2 (n1 x) / 16 + n2 (n1 x) < 18446744073709551616 ∧ n4 (n2 (n1 x)) < 18446744073709551616 ∧ n8 (n4 (n2 (n1 x))) < 18446744073709551616 ∧
    n16 (n8 (n4 (n2 (n1 x)))) < 18446744073709551616 ∧ n32 (n16 (n8 (n4 (n2 (n1 x))))) < 9223372036854775808 ∧ n32 (n16 (n8 (n4 (n2 (n1 x))))) % 128 = popN 64 x := by
  have hd := cat_digits 8 x (by simpa using hx)
  have hb := digits_lt 8 x
  obtain ⟨a, b, c, d, e, f, g, h, hl⟩ := list8 _ (digits_length 8 x)
  rw [hl] at hd hb
  have h1 := n1_cat _ rfl hb
  have hg1 : ∀ y ∈ [a, b, c, d, e, f, g, h].map g1, y < 256 := fun y hy => by
    rw [List.mem_map] at hy
    obtain ⟨z, hz, rfl⟩ := hy
    exact (d4 z (hb z hz)).1
  have h2 := n2_cat _ rfl hg1
  have hg2 : ∀ y ∈ ([a, b, c, d, e, f, g, h].map g1).map g2, y < 69 ∧ y % 16 ≤ 4 := fun y hy => by
    rw [List.map_map, List.mem_map] at hy
    obtain ⟨z, hz, rfl⟩ := hy
    exact ⟨(d4 z (hb z hz)).2.1, (d4 z (hb z hz)).2.2.1⟩
  have h4 := n4_cat _ rfl hg2
  have ha := d4 a (hb a (by simp))
  have hbb := d4 b (hb b (by simp))
  have hc := d4 c (hb c (by simp))
  have hdd := d4 d (hb d (by simp))
  have he := d4 e (hb e (by simp))
  have hf := d4 f (hb f (by simp))
  have hg := d4 g (hb g (by simp))
  have hh := d4 h (hb h (by simp))
  simp only [List.map_cons, List.map_nil, ha.2.2.2, hbb.2.2.2, hc.2.2.2, hdd.2.2.2, he.2.2.2, hf.2.2.2, hg.2.2.2, hh.2.2.2] at h1 h2 h4
  rw [hd] at h1
  rw [← h1] at h2
  rw [← h2] at h4
  have pop : popN 64 x = popN 8 a + (popN 8 b + (popN 8 c + (popN 8 d + (popN 8 e + (popN 8 f + (popN 8 g + popN 8 h)))))) := by
    rw [← hd]
    simp only [cat, Nat.mul_zero, Nat.add_zero]
    have j := fun k y X (hy : y ∈ [a, b, c, d, e, f, g, h]) => popN_join 8 k y X (hb y hy)
    rw [show (2 : Nat) ^ 8 = 256 from rfl] at j
    rw [show (64 : Nat) = 8 + 56 from rfl, j _ _ _ (by simp), show (56 : Nat) = 8 + 48 from rfl, j _ _ _ (by simp), show (48 : Nat) = 8 + 40 from rfl, j _ _ _ (by simp), show (40 : Nat) = 8 + 32 from rfl, j _ _ _ (by simp),
      show (32 : Nat) = 8 + 24 from rfl, j _ _ _ (by simp), show (24 : Nat) = 8 + 16 from rfl, j _ _ _ (by simp), show (16 : Nat) = 8 + 8 from rfl, j _ _ _ (by simp)]
  have la := popN_le 8 a
  have lb := popN_le 8 b
  have lc := popN_le 8 c
  have ld := popN_le 8 d
  have le := popN_le 8 e
  have lf := popN_le 8 f
  have lg := popN_le 8 g
  have lh := popN_le 8 h
  rw [pop]
  simp only [cat, Nat.mul_zero, Nat.add_zero] at h1 h2 h4
  generalize popN 8 a = pa at *
  generalize popN 8 b = pb at *
  generalize popN 8 c = pc at *
  generalize popN 8 d = pd at *
  generalize popN 8 e = pe at *
  generalize popN 8 f = pf at *
  generalize popN 8 g = pg at *
  generalize popN 8 h = ph at *
  have b1 : n1 x < 18446744073709551616 := by omega
  have b2 : n2 (n1 x) < 18446744073709551616 / 3 := by omega
  exact ⟨b1, by omega, by omega, by omega, last_steps la lb lc ld le lf lg lh h4⟩
end Go.Proofs.Ytpnkedgppbcnhaa.quorumMeet
