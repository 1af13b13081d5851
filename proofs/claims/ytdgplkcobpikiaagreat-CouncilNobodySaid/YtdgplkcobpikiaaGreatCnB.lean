/- A council of each size: there is one. No condition. -/
import Derived.Test.YtdgplkcobpikiaaGreatCnA
import Derived.Test.YtdgplkcobpikiaaGreatBmVk
import Derived.KernelRfl
set_option linter.unusedSimpArgs false
set_option linter.unusedVariables false
set_option maxRecDepth 100000
namespace Go.Proofs.YtdgplkcobpikiaaGreat.councilNobody
open Go Go.RowKit Go.Proofs.YtdgplkcobpikiaaGreat.Bm
noncomputable def E0 : Env := mkEnv Tryz.prog 237 205
theorem g0 : Bm.Good Tryz.prog E0 := qb
/-- What a node of a blank device keeps. -/
def a73 (x : Nat) : CS := ⟨[.agg [.int .u64 0, .int .i64 0, .int .u64 (Int.ofNat x), .str [], .ptr 0 0]], [some (.cells [.int .u64 0, .int .u64 0, .nilSlice] false)]⟩
def t73 (x : Nat) : List Nat := [0, 0, 0, 0, 0, 0, 0, 0, 0, 0, 0, 0, 0, 0, 0, 0, x, 0, 0, 0, 0, 0, 0, 0, 0, 0, 0, 0, 0, 0, 0, 0, 0, 0, 0, 0, 0, 0, 0, 0, 0, 0, 0, 0]
def f73L (c : CS) : List Nat → T CS
  | [] => .fail
  | x :: l => cond (AV.beqL c.ts (a73 x).ts && osBeq c.os (a73 x).os) (.ret ⟨[.str (t73 x)], []⟩) (f73L c l)
def f73 (c : CS) : T CS := f73L c [1, 3, 7, 15, 31, 63, 127]
theorem k73_1 : callC L0 3000 73 0 .keep [] .stop (a73 1) = some ⟨[.str (t73 1)], []⟩ := by kernel_rfl
theorem k73_3 : callC L0 3000 73 0 .keep [] .stop (a73 3) = some ⟨[.str (t73 3)], []⟩ := by kernel_rfl
theorem k73_7 : callC L0 3000 73 0 .keep [] .stop (a73 7) = some ⟨[.str (t73 7)], []⟩ := by kernel_rfl
theorem k73_15 : callC L0 3000 73 0 .keep [] .stop (a73 15) = some ⟨[.str (t73 15)], []⟩ := by kernel_rfl
theorem k73_31 : callC L0 3000 73 0 .keep [] .stop (a73 31) = some ⟨[.str (t73 31)], []⟩ := by kernel_rfl
theorem k73_63 : callC L0 3000 73 0 .keep [] .stop (a73 63) = some ⟨[.str (t73 63)], []⟩ := by kernel_rfl
theorem k73_127 : callC L0 3000 73 0 .keep [] .stop (a73 127) = some ⟨[.str (t73 127)], []⟩ := by kernel_rfl
theorem j73L {c c' : CS} : ∀ {l : List Nat}, (∀ x ∈ l, callC L0 3000 73 0 .keep [] .stop (a73 x) = some ⟨[.str (t73 x)], []⟩) → (f73L c l).run = some c' → callC L0 3000 73 0 .keep [] .stop c = some c'
  | [], _, h => by cases h
  | x :: l, hl, h => by
    simp only [f73L] at h
    cases hk : (AV.beqL c.ts (a73 x).ts && osBeq c.os (a73 x).os) with
    | false => rw [hk] at h; exact j73L (fun y hy => hl y (List.mem_cons_of_mem _ hy)) h
    | true =>
      rw [hk] at h
      simp only [cond_true, T.run, Option.some.injEq] at h; subst h
      rw [Bool.and_eq_true] at hk
      have hc : c = a73 x := by
        obtain ⟨ts, os⟩ := c
        have e1 : ts = (a73 x).ts := AV.eq_of_beqL _ _ hk.1
        have e2 : os = (a73 x).os := osBeq_eq hk.2
        rw [e1, e2]
      rw [hc]
      exact hl x List.mem_cons_self
theorem j73 (c c' : CS) (h : (f73 c).run = some c') : ∃ m pr ros π, callC L0 m 73 0 pr ros π c = some c' := by
  refine ⟨3000, .keep, [], .stop, j73L (fun x hx => ?_) h⟩
  simp only [List.mem_cons, List.not_mem_nil, or_false] at hx
  rcases hx with rfl | rfl | rfl | rfl | rfl | rfl | rfl
  · exact k73_1
  · exact k73_3
  · exact k73_7
  · exact k73_15
  · exact k73_31
  · exact k73_63
  · exact k73_127
noncomputable def LT : Env := addF L0 73 ⟨frRun [.keep] [] f73⟩
theorem qT : Bm.Good Tryz.prog LT := q0.addR q0 (by kernel_rfl) j73
/-! ### New -/
def n13 (z : Int) : CS := ⟨[.int .i64 z, .func (.func 14) [] []], []⟩
def n13n : CS := ⟨[.int .i64 3, .nilFunc], []⟩
noncomputable def k13a (z : Int) (π : Plan) : Option CS := callC (E0) (5000) (13) (0) (.keep) ([]) π (n13 z)
def k13a_p : Plan := (.must false (.must false (.must true .stop)))
theorem k13a_is (z : Int) : k13a z k13a_p = (cond (decide (z < 1) == false) none (cond (decide (z < 1) == false) none (cond (decide (z < 1)) (some (CS.mk [AV.nilPtr] [])) none))) := by kernel_rfl
theorem k13a_eq (z : Int) (hy0 : (decide (z < 1)) = true) : k13a z k13a_p = (some (CS.mk [AV.nilPtr] [])) := by
  rw [k13a_is]
  try simp only [hy0, eq_self, decide_true, beq_self_eq_true, Nat.beq_refl, ble_self, Int.le_refl, Nat.le_refl]
  rfl

noncomputable def k13b (z : Int) (π : Plan) : Option CS := callC (E0) (5000) (13) (0) (.keep) ([]) π (n13 z)
def k13b_p : Plan := (.must true (.must true (.must false (.must false (.must false (.must true .stop))))))
theorem k13b_is (z : Int) : k13b z k13b_p = (cond (decide (z < 1) == false) (cond (decide (z < 1) == false) (cond (decide (z < 1)) none (cond (decide (z > 7) == false) none (cond (decide (z > 7) == false) none (cond (decide (z > 7)) (some (CS.mk [AV.nilPtr] [])) none)))) none) none) := by kernel_rfl
theorem k13b_eq (z : Int) (hy0 : (decide (z < 1)) = false) (hy1 : (decide (z > 7)) = true) : k13b z k13b_p = (some (CS.mk [AV.nilPtr] [])) := by
  rw [k13b_is]
  try simp only [hy0, hy1, eq_self, decide_true, beq_self_eq_true, Nat.beq_refl, ble_self, Int.le_refl, Nat.le_refl]
  rfl

noncomputable def k13c (π : Plan) : Option CS := callC (E0) (5000) (13) (0) (.keep) ([]) π (n13n)
def k13c_p : Plan := .stop
theorem k13c_is : k13c k13c_p = (some (CS.mk [AV.nilPtr] [])) := by kernel_rfl
theorem k13c_eq : k13c k13c_p = (some (CS.mk [AV.nilPtr] [])) := by
  rw [k13c_is]

def is13 : Option CS → Bool
  | some ⟨[.ptr 0 0], os⟩ => Nat.beq os.length 38
  | _ => false
theorem k13_1 : is13 (callC LT 9000 13 0 .keep [] .stop (n13 1)) = true := by kernel_rfl
theorem k13_2 : is13 (callC LT 9000 13 0 .keep [] .stop (n13 2)) = true := by kernel_rfl
theorem k13_3 : is13 (callC LT 9000 13 0 .keep [] .stop (n13 3)) = true := by kernel_rfl
theorem k13_4 : is13 (callC LT 9000 13 0 .keep [] .stop (n13 4)) = true := by kernel_rfl
theorem k13_5 : is13 (callC LT 9000 13 0 .keep [] .stop (n13 5)) = true := by kernel_rfl
theorem k13_6 : is13 (callC LT 9000 13 0 .keep [] .stop (n13 6)) = true := by kernel_rfl
theorem k13_7 : is13 (callC LT 9000 13 0 .keep [] .stop (n13 7)) = true := by kernel_rfl
def f13 (c : CS) : T CS := match c with
  | ⟨[.int .i64 z, .func (.func 14) [] []], []⟩ => .ask (decide (z < 1)) (.ret ⟨[.nilPtr], []⟩) (.ask (decide (z > 7)) (.ret ⟨[.nilPtr], []⟩) (.ret ⟨[.ptr 0 0], List.replicate 38 none⟩))
  | ⟨[.int .i64 3, .nilFunc], []⟩ => .ret ⟨[.nilPtr], []⟩
  | _ => .fail
theorem seenNone : ∀ os : List (Option AObj), SeenOs os (List.replicate os.length none)
  | [] => .nil
  | _ :: os => .skip (seenNone os)
theorem c13 {z : Int} (h : is13 (callC LT 9000 13 0 .keep [] .stop (n13 z)) = true) : CallC Tryz.prog 13 0 (n13 z) ⟨[.ptr 0 0], List.replicate 38 none⟩ := by
  unfold is13 at h
  split at h
  · rename_i os hc
    have h := Nat.eq_of_beq_eq_true h
    refine qT.callC (Seen.refl _) hc ?_
    rw [← h]
    exact Seen.mk' (SeenVs.refl _) (seenNone os)
  · cases h
theorem j13 (c c' : CS) (h : (f13 c).run = some c') : CallC Tryz.prog 13 0 c c' := by
  unfold f13 at h
  split at h
  · rename_i z
    simp only [T.run] at h
    cases h1 : decide (z < 1) with
    | true =>
      rw [h1] at h
      simp only [cond_true, Option.some.injEq] at h; subst h
      exact g0.callC (Seen.refl _) (k13a_eq z h1) (Seen.refl _)
    | false =>
      rw [h1] at h
      cases h2 : decide (z > 7) with
      | true =>
        rw [h2] at h
        simp only [cond_true, cond_false, Option.some.injEq] at h; subst h
        exact g0.callC (Seen.refl _) (k13b_eq z h1 h2) (Seen.refl _)
      | false =>
        rw [h2] at h
        simp only [cond_false, Option.some.injEq] at h; subst h
        have a1 := of_decide_eq_false h1
        have a2 := of_decide_eq_false h2
        have hz : z = 1 ∨ z = 2 ∨ z = 3 ∨ z = 4 ∨ z = 5 ∨ z = 6 ∨ z = 7 := by omega
        rcases hz with rfl | rfl | rfl | rfl | rfl | rfl | rfl
        · exact c13 k13_1
        · exact c13 k13_2
        · exact c13 k13_3
        · exact c13 k13_4
        · exact c13 k13_5
        · exact c13 k13_6
        · exact c13 k13_7
  · simp only [T.run, Option.some.injEq] at h; subst h
    exact g0.callC (Seen.refl _) k13c_is (Seen.refl _)
  · cases h
noncomputable def E1n : Env := addF E0 13 ⟨fnRun [.keep, .keep] [] f13⟩
theorem g13 : Bm.Good Tryz.prog E1n := g0.addN (by kernel_rfl) j13
end Go.Proofs.YtdgplkcobpikiaaGreat.councilNobody
