/- The abstract machine: operators on two values. -/
import Derived.Test.YtmjmhpbncfjnpaaBmF
set_option linter.unusedSimpArgs false
set_option linter.unusedVariables false
namespace Go.Proofs.Ytmjmhpbncfjnpaa.Bm
open Go.RowKit
section
variable {P : Program} {E : Env} {φ : Phi}
theorem run_eql' (hE : EnvOK P E) {d : Nat} (hd : d + 1 ≤ Op.maxDepth) {t : TypeId} {x y : AV} {b : Bool} {u v : Value} (h : aeq E (d + 1) t x y = some b) (hu : VR φ x u) (hv : VR φ y v)
  (hi : ∀ k n l m, ¬ (x = .int k n ∧ y = .int l m)) (hs : ∀ s s', ¬ (x = .str s ∧ y = .str s')) (w : World) (xo yo : Operand) :
  (binOp .eql t u v).run P w = .ok (.bool b) w ∧ (binOp .neq t u v).run P w = .ok (.bool (!b)) w ∧
  (eqGuard .eql t xo yo u v).run P w = .ok () w ∧ (eqGuard .neq t xo yo u v).run P w = .ok () w := by
 have hEq : (Op.equal t u v).run P w = .ok b w := run_equalIn hE (d + 1) Op.maxDepth hd t x y b u v h hu hv w
 simp only [aeq] at h
 cases ht : E.ty.get t with
 | none => rw [ht] at h; cases h
 | some ti =>
   simp only [ht] at h
   have hT := hE.at_ ht
   split at h
   all_goals (first | cases h | skip)
   case h_2 => exact absurd ⟨rfl, rfl⟩ (hi _ _ _ _)
   case h_3 => exact absurd ⟨rfl, rfl⟩ (hs _ _)
   case h_19 fs xs ys hk =>
    simp only [VR] at hu hv
    obtain ⟨l, rfl, _⟩ := hu
    obtain ⟨m, rfl, _⟩ := hv
    cases hq : ti.eqok with
    | false => rw [hq] at h; cases h
    | true =>
      have hg := (hT.eq hq).2.2
      refine ⟨?_, ?_, ?_, ?_⟩
      ·simp only [binOp, Sem.run_bind, hEq, Result.andThen_ok, Sem.run_pure]
      ·simp only [binOp, Sem.run_bind, hEq, Result.andThen_ok, Sem.run_pure]
      ·exact run_eqGuard_agg (w := w) _ _ _ _ _ _ hg
      ·exact run_eqGuard_agg (w := w) _ _ _ _ _ _ hg
   case h_20 n e xs ys hk =>
    simp only [VR] at hu hv
    obtain ⟨l, rfl, _⟩ := hu
    obtain ⟨m, rfl, _⟩ := hv
    cases hq : ti.eqok with
    | false => rw [hq] at h; cases h
    | true =>
      have hg := (hT.eq hq).2.2
      refine ⟨?_, ?_, ?_, ?_⟩
      ·simp only [binOp, Sem.run_bind, hEq, Result.andThen_ok, Sem.run_pure]
      ·simp only [binOp, Sem.run_bind, hEq, Result.andThen_ok, Sem.run_pure]
      ·exact run_eqGuard_agg (w := w) _ _ _ _ _ _ hg
      ·exact run_eqGuard_agg (w := w) _ _ _ _ _ _ hg
   all_goals
    simp only [VR] at hu hv
    first
     | (subst hu; subst hv)
     | (subst hu; obtain ⟨_, _, _, _, rfl, _⟩ := hv)
     | (subst hu; obtain ⟨_, _, _, rfl, _⟩ := hv)
     | (subst hu; obtain ⟨_, _, rfl⟩ := hv)
     | (subst hu; obtain ⟨_, rfl, _⟩ := hv)
     | (subst hv; obtain ⟨_, _, _, _, rfl, _⟩ := hu)
     | (subst hv; obtain ⟨_, _, _, rfl, _⟩ := hu)
     | (subst hv; obtain ⟨_, _, rfl⟩ := hu)
     | (subst hv; obtain ⟨_, rfl, _⟩ := hu)
     | (obtain ⟨_, _, rfl⟩ := hu; obtain ⟨_, _, rfl⟩ := hv)
    refine ⟨?_, ?_, ?_, ?_⟩
    ·simp only [binOp, Sem.run_bind, hEq, Result.andThen_ok, Sem.run_pure]
    ·simp only [binOp, Sem.run_bind, hEq, Result.andThen_ok, Sem.run_pure]
    ·simp [eqGuard, Sem.run_pure]
    ·simp [eqGuard, Sem.run_pure]
theorem run_eql (hE : EnvOK P E) {t : TypeId} {x y : AV} {b : Bool} {u v : Value} (h : aeq E 50 t x y = some b) (hu : VR φ x u) (hv : VR φ y v)
  (hi : ∀ k n l m, ¬ (x = .int k n ∧ y = .int l m)) (hs : ∀ s s', ¬ (x = .str s ∧ y = .str s')) (w : World) (xo yo : Operand) :
  (binOp .eql t u v).run P w = .ok (.bool b) w ∧ (binOp .neq t u v).run P w = .ok (.bool (!b)) w ∧
  (eqGuard .eql t xo yo u v).run P w = .ok () w ∧ (eqGuard .neq t xo yo u v).run P w = .ok () w :=
 run_eql' hE (d := 49) (by decide) h hu hv hi hs w xo yo
def valOf : AV → Value
 | .int k n => .int k n
 | .bool b => .bool b
 | _ => undef
theorem bless_eq : ∀ a b : List UInt8, bless (a.map UInt8.toNat) (b.map UInt8.toNat) = Op.bytesLess a b
 | [], [] => rfl
 | _ :: _, [] => rfl
 | [], _ :: _ => rfl
 | x :: a, y :: b => by
   simp only [List.map_cons, bless, Op.bytesLess, bless_eq a b]
   have h1 : Nat.blt x.toNat y.toNat = decide (x < y) := by
    rw [Bool.eq_iff_iff]; simp [Nat.blt_eq, UInt8.lt_iff_toNat_lt]
   have h2 : Nat.beq x.toNat y.toNat = (x == y) := by
    rw [Bool.eq_iff_iff]; simp only [beq_iff_eq]
    exact ⟨fun h => UInt8.toNat_inj.1 (Nat.eq_of_beq_eq_true h), fun h => by subst h; exact Nat.beq_refl _⟩
   rw [h1, h2]
theorem run_bits (op : BinOp) (k : IntKind) (a b r : Int) (h : bits2 op k a b = some r) (w : World) : (Op.intBits op k a b).run P w = .ok (.int k r) w := by
 cases op <;> simp only [bits2] at h <;> first | (simp only [Option.some.injEq] at h; subst h; rfl) | cases h
theorem run_abin (hE : EnvOK P E) {op : BinOp} {t : TypeId} {x y r : AV} {u v : Value} (h : abin E op t x y = some r) (hu : VR φ x u) (hv : VR φ y v) (w : World) (xo yo : Operand) :
  ∃ z, (do eqGuard op t xo yo u v; binOp op t u v : Sem Value).run P w = .ok z w ∧ VR φ r z := by
 unfold abin at h
 split at h
 ·-- whole numbers
  rename_i k a l b
  simp only [VR] at hu hv; subst hu; subst hv
  have hg : (eqGuard op t xo yo (.int k a) (.int l b)).run P w = .ok () w := by
   unfold eqGuard
   cases op <;> simp [Sem.run_pure]
  simp only [Sem.run_bind, hg, Result.andThen_ok]
  have done : ∀ (r' : AV), r' = r → VR φ r' (valOf r') → (binOp op t (.int k a) (.int l b)).run P w = .ok (valOf r') w → ∃ z, (binOp op t (.int k a) (.int l b)).run P w = .ok z w ∧ VR φ r z := by
   intro r' h3 h1 h2; subst h3; exact ⟨_, h2, h1⟩
  cases op with
  | shl =>
    simp only at h
    by_cases hb : b < 0
    ·simp [hb] at h
    ·simp only [hb, decide_false, cond_false, Option.some.injEq] at h
     exact done _ h (by simp only [VR, valOf]) (by simp [binOp, Op.shift, hb, Sem.run_pure, valOf])
  | shr =>
    simp only at h
    by_cases hb : b < 0
    ·simp [hb] at h
    ·simp only [hb, decide_false, cond_false, Option.some.injEq] at h
     exact done _ h (by simp only [VR, valOf]) (by simp [binOp, Op.shift, hb, Sem.run_pure, valOf])
  | _ =>
    simp only at h
    by_cases hkl : k = l
    ·subst hkl
     simp only [decide_true, cond_true] at h
     first
      | (rw [hE.bits] at h
         simp only [Option.some.injEq] at h
         exact done _ h (by simp only [VR, valOf]) (by simp only [binOp, ne_eq, not_true_eq_false, if_false]; exact run_bits _ _ _ _ _ rfl w))
      | (simp only [Option.some.injEq] at h
         exact done _ h (by simp only [VR, valOf]) (by simp [binOp, Op.intArith, Op.intCmp, Sem.run_pure, valOf]))
      | (by_cases hb : b = 0
         ·simp [hb] at h
         ·simp only [hb, decide_false, cond_false, Option.some.injEq] at h
          exact done _ h (by simp only [VR, valOf]) (by simp [binOp, Op.intDiv, hb, Sem.run_pure, valOf]))
      | (cases h)
    ·simp [hkl] at h
 ·-- texts
  rename_i s s'
  simp only [VR] at hu hv
  obtain ⟨a, rfl, rfl⟩ := hu
  obtain ⟨b, rfl, rfl⟩ := hv
  have hg : (eqGuard op t xo yo (.string a) (.string b)).run P w = .ok () w := by
   unfold eqGuard
   cases op <;> simp [Sem.run_pure]
  simp only [Sem.run_bind, hg, Result.andThen_ok]
  have done : ∀ (r' : AV), r' = r → VR φ r' (valOf r') → (binOp op t (.string a) (.string b)).run P w = .ok (valOf r') w → ∃ z, (binOp op t (.string a) (.string b)).run P w = .ok z w ∧ VR φ r z := by
   intro r' h3 h1 h2; subst h3; exact ⟨_, h2, h1⟩
  have hl : bless (bytesOf a) (bytesOf b) = Op.bytesLess a.toList b.toList := by
   rw [ByteArray.toList_eq, ByteArray.toList_eq]; exact bless_eq _ _
  cases op with
  | add =>
    simp only at h
    cases hle : Nat.ble ((bytesOf a).length + (bytesOf b).length) 140737488355328 with
    | false => rw [hle] at h; cases h
    | true =>
      rw [hle] at h
      simp only [cond_true, Option.some.injEq] at h
      have h2 := Nat.le_of_ble_eq_true hle
      rw [bytesOf_length, bytesOf_length] at h2
      have h3 : ¬ (((a.size + b.size : Nat) : Int) > IntKind.i64.max) := by
       have : IntKind.i64.max = 9223372036854775807 := by decide
       omega
      subst h
      refine ⟨.string (a ++ b), ?_, by simp only [VR]; exact ⟨_, rfl, bytesOf_append a b⟩⟩
      simp only [binOp, Op.stringOp, h3, if_false, Sem.run_pure]
  | _ =>
    simp only at h
    first
     | (simp only [Option.some.injEq] at h
        refine done _ h (by simp only [VR, valOf]) ?_
        simp only [binOp, Op.stringOp, Sem.run_pure, toList_bytesOf, hl, valOf])
     | cases h
 ·-- others
  rename_i hni hns
  have hi : ∀ k n l m, ¬ (x = .int k n ∧ y = .int l m) := fun k n l m he => hni k n l m he.1 he.2
  have hs : ∀ s s', ¬ (x = .str s ∧ y = .str s') := fun s s' he => hns s s' he.1 he.2
  split at h
  ·split at h
   ·rename_i b hb
    simp only [Option.some.injEq] at h; subst h
    obtain ⟨h1, _, h3, _⟩ := run_eql hE hb hu hv hi hs w xo yo
    exact ⟨.bool b, by simp only [Sem.run_bind, h3, Result.andThen_ok, h1], by simp only [VR]⟩
   ·cases h
  ·split at h
   ·rename_i b hb
    simp only [Option.some.injEq] at h; subst h
    obtain ⟨_, h2, _, h4⟩ := run_eql hE hb hu hv hi hs w xo yo
    exact ⟨.bool (!b), by simp only [Sem.run_bind, h4, Result.andThen_ok, h2], by simp only [VR]⟩
   ·cases h
  ·cases h
theorem run_aun {op : UnOp} {x r : AV} {u : Value} (h : aun op x = some r) (hu : VR φ x u) (w : World) : ∃ z, (Op.unary op u).run P w = .ok z w ∧ VR φ r z := by
 unfold aun at h
 split at h
 ·simp only [VR] at hu; subst hu
  rename_i k n
  simp only [Option.some.injEq] at h; subst h
  exact ⟨.int k (k.wrap (0 - n)), by simp only [Op.unary, Op.intArith, Sem.run_pure], by simp only [VR]⟩
 ·simp only [VR] at hu; subst hu
  split at h
  ·rename_i r' hr'
   simp only [Option.some.injEq] at h; subst h
   exact ⟨_, by simp only [Op.unary]; exact run_bits _ _ _ _ _ hr' w, by simp only [VR]⟩
  ·cases h
 ·simp only [VR] at hu; subst hu
  simp only [Option.some.injEq] at h; subst h
  exact ⟨_, by simp [Op.unary, Sem.run_pure]; rfl, by simp only [VR]⟩
 ·cases h
end
end Go.Proofs.Ytmjmhpbncfjnpaa.Bm
