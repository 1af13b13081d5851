/- The abstract machine: its values, its heap, its operations, its runs. Plain definitions over the model's code; nothing of any one program. -/
import Derived.RangeFuncIn
import Derived.RangeFuncLeaves
import Derived.OrdersIn
import Derived.Scope
set_option linter.unusedSimpArgs false
set_option linter.unusedVariables false
namespace Go.Proofs.Ytmjmhpbncfjnpaa.Bm
inductive Tr (α : Type) where
 | nil
 | node (l : Tr α) (v : Option α) (r : Tr α)
def Tr.get {α : Type} : Tr α → Nat → Option α
 | .nil, _ => none
 | .node l v r, n => cond (Nat.beq n 0) v (cond (Nat.beq (Nat.mod n 2) 1) (l.get (Nat.div n 2)) (r.get (Nat.sub (Nat.div n 2) 1)))
def Tr.setF {α : Type} : Nat → Tr α → Nat → Option α → Tr α
 | 0, t, _, _ => t
 | f + 1, .nil, n, v => cond (Nat.beq n 0) (.node .nil v .nil)
    (cond (Nat.beq (Nat.mod n 2) 1) (.node (Tr.setF f .nil (Nat.div n 2) v) none .nil) (.node .nil none (Tr.setF f .nil (Nat.sub (Nat.div n 2) 1) v)))
 | f + 1, .node l w r, n, v => cond (Nat.beq n 0) (.node l v r)
    (cond (Nat.beq (Nat.mod n 2) 1) (.node (Tr.setF f l (Nat.div n 2) v) w r) (.node l w (Tr.setF f r (Nat.sub (Nat.div n 2) 1) v)))
def Tr.set {α : Type} (t : Tr α) (n : Nat) (v : Option α) : Tr α := Tr.setF (Nat.succ n) t n v
def Tr.ofList {α : Type} : List α → Nat → Tr α → Tr α
 | [], _, t => t
 | x :: xs, n, t => Tr.ofList xs (Nat.succ n) (t.set n (some x))
theorem Tr.get_setF {α : Type} : ∀ (f : Nat) (t : Tr α) (n m : Nat) (v : Option α), n < f → (Tr.setF f t n v).get m = if m = n then v else t.get m := by
 intro f
 induction f with
 | zero => intro t n m v h; omega
 | succ f ih =>
   intro t n m v h
   have e0 : ∀ k : Nat, Nat.beq k 0 = decide (k = 0) := fun k => by cases k <;> rfl
   have e1 : ∀ k : Nat, Nat.beq (Nat.mod k 2) 1 = decide (k % 2 = 1) := fun k => by
    have : Nat.mod k 2 = k % 2 := rfl
    rw [this]
    rcases Nat.mod_two_eq_zero_or_one k with h | h <;> (rw [h]; rfl)
   have ed : ∀ k : Nat, Nat.div k 2 = k / 2 := fun _ => rfl
   have es : ∀ a b : Nat, Nat.sub a b = a - b := fun _ _ => rfl
   cases t with
   | nil =>
     simp only [Tr.setF, Tr.get, e0, e1, ed, es]
     by_cases hn : n = 0
     ·subst hn
      by_cases hm : m = 0
      ·subst hm; simp [Tr.get, e0]
      ·simp [Tr.get, e0, hm, e1]
     ·by_cases hp : n % 2 = 1
      ·simp only [hn, hp, decide_false, decide_true, cond_false, cond_true, Tr.get, e0, e1, ed, es]
       by_cases hm : m = 0
       ·subst hm; simp [hn, Ne.symm hn]
       ·by_cases hmp : m % 2 = 1
        ·simp only [hm, hmp, decide_false, decide_true, cond_false, cond_true]
         rw [ih _ _ _ _ (by omega)]
         by_cases he : m = n
         ·subst he; simp
         ·simp [he, Tr.get, show ¬ m / 2 = n / 2 by omega]
        ·simp [hm, hmp, show ¬ m = n by omega]
      ·simp only [hn, hp, decide_false, decide_true, cond_false, cond_true, Tr.get, e0, e1, ed, es]
       by_cases hm : m = 0
       ·subst hm; simp [hn, Ne.symm hn]
       ·by_cases hmp : m % 2 = 1
        ·simp [hm, hmp, show ¬ m = n by omega]
        ·simp only [hm, hmp, decide_false, decide_true, cond_false, cond_true]
         rw [ih _ _ _ _ (by omega)]
         by_cases he : m = n
         ·subst he; simp
         ·simp [he, Tr.get, show ¬ m / 2 - 1 = n / 2 - 1 by omega]
   | node l w r =>
     simp only [Tr.setF, e0, e1, ed, es]
     by_cases hn : n = 0
     ·subst hn
      by_cases hm : m = 0
      ·subst hm; simp [Tr.get, e0]
      ·simp [Tr.get, e0, hm, e1]
     ·by_cases hp : n % 2 = 1
      ·simp only [hn, hp, decide_false, decide_true, cond_false, cond_true, Tr.get, e0, e1, ed, es]
       by_cases hm : m = 0
       ·subst hm; simp [hn, Ne.symm hn]
       ·by_cases hmp : m % 2 = 1
        ·simp only [hm, hmp, decide_false, decide_true, cond_false, cond_true]
         rw [ih _ _ _ _ (by omega)]
         by_cases he : m = n
         ·subst he; simp
         ·simp [he, show ¬ m / 2 = n / 2 by omega]
        ·simp [hm, hmp, show ¬ m = n by omega]
      ·simp only [hn, hp, decide_false, decide_true, cond_false, cond_true, Tr.get, e0, e1, ed, es]
       by_cases hm : m = 0
       ·subst hm; simp [hn, Ne.symm hn]
       ·by_cases hmp : m % 2 = 1
        ·simp [hm, hmp, show ¬ m = n by omega]
        ·simp only [hm, hmp, decide_false, decide_true, cond_false, cond_true]
         rw [ih _ _ _ _ (by omega)]
         by_cases he : m = n
         ·subst he; simp
         ·simp [he, show ¬ m / 2 - 1 = n / 2 - 1 by omega]
theorem Tr.get_set {α : Type} (t : Tr α) (n m : Nat) (v : Option α) : (t.set n v).get m = if m = n then v else t.get m :=
 Tr.get_setF _ _ _ _ _ (Nat.lt_succ_self n)
theorem Tr.get_set_same {α : Type} (t : Tr α) (n : Nat) (v : Option α) : (t.set n v).get n = v := by rw [Tr.get_set]; simp
theorem Tr.get_set_ne {α : Type} (t : Tr α) {n m : Nat} (v : Option α) (h : m ≠ n) : (t.set n v).get m = t.get m := by rw [Tr.get_set]; simp [h]
end Go.Proofs.Ytmjmhpbncfjnpaa.Bm
