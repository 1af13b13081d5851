/- Of leases that were asked for one after the other, the clock not going back, no two of one chunk, with unlike holders, hold at one time; the one that was given last holds: for every input the law returns true, and the input reads as it did. No condition. -/
import Derived.Test.YtckpljmiodgejaaPlB
import Derived.Test.YtckpljmiodgejaaRows
import Derived.KernelRfl
set_option linter.unusedSimpArgs false
set_option linter.unusedVariables false
set_option maxRecDepth 20000
namespace Go.Proofs.Ytckpljmiodgejaa.placeOne
open Go Go.ChangeShapes Go.WideShapes Go.ChangeAt Go.RowKit Go.Proofs.Ytckpljmiodgejaa.Bm
/-! ### Plain laws of leases -/
theorem firstL_all {q : Ls → Bool} : ∀ {l : List Ls}, ¬ firstL q l < l.length → ∀ y ∈ l, q y = false
  | [], _, y, hy => by simp at hy
  | x :: l, h, y, hy => by
    cases hq : q x with
    | true => simp [firstL, hq] at h
    | false =>
      simp only [firstL, hq, cond_false, List.length_cons] at h
      rcases List.mem_cons.1 hy with rfl | hm
      · exact hq
      · exact firstL_all (by omega) y hm
theorem firstL_mem {q : Ls → Bool} {l : List Ls} {y : Ls} (hy : y ∈ l) (hq : q y = true) : firstL q l < l.length ∧ q (l.getD (firstL q l) nilLs) = true ∧ l.getD (firstL q l) nilLs ∈ l := by
  have h1 : firstL q l < l.length := by
    by_cases h : firstL q l < l.length
    · exact h
    · have := firstL_all h y hy
      rw [hq] at this; cases this
  refine ⟨h1, (firstL_spec q l).2.2 h1, ?_⟩
  rw [List.getD_eq_getElem?_getD, List.getElem?_eq_getElem h1]
  exact List.getElem_mem h1
theorem gStep_mem (now : Int) (x y z : Ls) (L : List Ls) (p : Bool) : z ∈ (gStep now x (L, p) y).1 ↔ z ∈ L ∨ (z = y ∧ y.c ≠ x.c ∧ y.u > now) ∨ ((gStep now x (L, p) y).2 = true ∧ p = false ∧ z = x) := by
  unfold gStep
  cases h1 : (y.c == x.c) with
  | true =>
    have hc : y.c = x.c := by simpa using h1
    simp only [Bool.true_or, cond_true]
    constructor
    · intro h; exact Or.inl h
    · rintro (h | h | h)
      · exact h
      · exact absurd hc h.2.1
      · rw [h.2.1] at h; cases h.1
  | false =>
    have hc : y.c ≠ x.c := by simpa using h1
    cases h2 : decide (y.u ≤ now) with
    | true =>
      have hu := of_decide_eq_true h2
      simp only [Bool.or_true, cond_true]
      constructor
      · intro h; exact Or.inl h
      · rintro (h | h | h)
        · exact h
        · omega
        · rw [h.2.1] at h; cases h.1
    | false =>
      have hu := of_decide_eq_false h2
      simp only [Bool.or_false, cond_false]
      cases p with
      | true =>
        simp only [Bool.not_true, Bool.false_and, cond_false, List.mem_append, List.mem_singleton]
        constructor
        · rintro (h | h)
          · exact Or.inl h
          · exact Or.inr (Or.inl ⟨h, hc, by omega⟩)
        · rintro (h | h | h)
          · exact Or.inl h
          · exact Or.inr h.1
          · cases h.2.1
      | false =>
        cases h4 : decide (y.c > x.c) with
        | true =>
          simp only [Bool.not_false, Bool.and_self, cond_true, List.mem_append, List.mem_singleton]
          constructor
          · rintro ((h | h) | h)
            · exact Or.inl h
            · exact Or.inr (Or.inr ⟨trivial, trivial, h⟩)
            · exact Or.inr (Or.inl ⟨h, hc, by omega⟩)
          · rintro (h | h | h)
            · exact Or.inl (Or.inl h)
            · exact Or.inr h.1
            · exact Or.inl (Or.inr h.2.2)
        | false =>
          simp only [Bool.and_false, cond_false, List.mem_append, List.mem_singleton]
          constructor
          · rintro (h | h)
            · exact Or.inl h
            · exact Or.inr (Or.inl ⟨h, hc, by omega⟩)
          · rintro (h | h | h)
            · exact Or.inl h
            · exact Or.inr h.1
            · cases h.1
theorem fold_mem (now : Int) (x z : Ls) : ∀ (l L : List Ls) (p : Bool), (p = true → (l.foldl (gStep now x) (L, p)).2 = true) ∧ (z ∈ (l.foldl (gStep now x) (L, p)).1 ↔ z ∈ L ∨ (z ∈ l ∧ z.c ≠ x.c ∧ z.u > now) ∨ ((l.foldl (gStep now x) (L, p)).2 = true ∧ p = false ∧ z = x))
  | [], L, p => by
    refine ⟨fun h => h, ?_⟩
    simp only [List.foldl_nil]
    constructor
    · intro h; exact .inl h
    · rintro (h | ⟨h, _⟩ | ⟨h1, h2, _⟩)
      · exact h
      · simp at h
      · rw [h2] at h1; cases h1
  | y :: l, L, p => by
    simp only [List.foldl_cons]
    obtain ⟨h1, h2⟩ := gStep_len now x y (L, p)
    have hs := gStep_mem now x y z L p
    generalize gStep now x (L, p) y = q at h1 h2 hs ⊢
    obtain ⟨L', p'⟩ := q
    simp only at h1 h2 hs
    obtain ⟨i1, i2⟩ := fold_mem now x z l L' p'
    refine ⟨fun h => i1 (h2 h), ?_⟩
    rw [i2, hs]
    constructor
    · rintro ((h | h | h) | h | h)
      · exact .inl h
      · obtain ⟨rfl, h3, h4⟩ := h
        exact .inr (.inl ⟨List.mem_cons_self, h3, h4⟩)
      · exact .inr (.inr ⟨i1 h.1, h.2⟩)
      · exact .inr (.inl ⟨List.mem_cons_of_mem _ h.1, h.2⟩)
      · refine .inr (.inr ⟨h.1, ?_, h.2.2⟩)
        cases p with
        | false => rfl
        | true => have := h2 rfl; rw [h.2.1] at this; cases this
    · rintro (h | ⟨h, h3, h4⟩ | h)
      · exact .inl (.inl h)
      · rcases List.mem_cons.1 h with rfl | h
        · exact .inl (.inr (.inl ⟨rfl, h3, h4⟩))
        · exact .inr (.inl ⟨h, h3, h4⟩)
      · cases hp' : p' with
        | false => exact .inr (.inr ⟨by rw [hp'] at h; exact h.1, rfl, h.2.2⟩)
        | true => exact .inl (.inr (.inr ⟨rfl, h.2⟩))
theorem grant_mem {now : Int} {x z : Ls} {A : List Ls} : z ∈ grantL now x A ↔ z = x ∨ (z ∈ A ∧ z.c ≠ x.c ∧ z.u > now) := by
  obtain ⟨_, h⟩ := fold_mem now x z A [] false
  unfold grantL gLoop
  cases hp : (A.foldl (gStep now x) ([], false)).2 with
  | true =>
    rw [hp] at h
    simp only [cond_true]
    rw [h]
    simp
    exact Or.comm
  | false =>
    rw [hp] at h
    simp only [cond_false, List.mem_append, List.mem_singleton]
    rw [h]
    simp
    exact Or.comm
theorem grant_len (now : Int) (x : Ls) (A : List Ls) : (grantL now x A).length ≤ A.length + 1 := by
  have h := gi_len now x.c x.h x.e x.u (finL A) A.length
  have e : gi now x.c x.h x.e x.u (finL A) A.length = gLoop now x A := by simp only [gi, rdL_fin]
  rw [e] at h
  unfold grantL
  cases hp : (gLoop now x A).2 with
  | true => rw [hp] at h; simpa using h
  | false => rw [hp] at h; simp only [cond_false, List.length_append, List.length_singleton] at h ⊢; omega
theorem grant_first {now : Int} {x : Ls} {A : List Ls} (hx : x.u > now) : firstL (holdsQ now x.c) (grantL now x A) < (grantL now x A).length ∧ (grantL now x A).getD (firstL (holdsQ now x.c) (grantL now x A)) nilLs = x := by
  have hm : x ∈ grantL now x A := grant_mem.2 (.inl rfl)
  have hq : holdsQ now x.c x = true := by simp [holdsQ, hx]
  obtain ⟨h1, h2, h3⟩ := firstL_mem hm hq
  refine ⟨h1, ?_⟩
  rcases grant_mem.1 h3 with h | ⟨_, h4, _⟩
  · exact h
  · simp only [holdsQ, Bool.and_eq_true, beq_iff_eq] at h2
    exact absurd h2.1 h4
theorem arg_until {now : Int} {x : Ls} (h : argV now x = false) : x.u > now := by
  rw [argV_eq] at h
  simp only [argB, Bool.or_eq_false_iff, decide_eq_false_iff_not] at h
  omega
/-- No lease that was given holds against the one that there is. -/
def Given (now : Int) (A G : List Ls) : Prop := ∀ g ∈ G, g.u > now → ∃ y ∈ A, y.c = g.c ∧ y.h = g.h ∧ g.u ≤ y.u
theorem Given.later {now nw : Int} {A G : List Ls} (h : Given now A G) (hn : now ≤ nw) : Given nw A G := fun g hg hu => h g hg (by omega)
theorem Given.ok {now : Int} {A G : List Ls} {x : Ls} (h : Given now A G) (hb : ∀ y ∈ A, busyQ now x y = false) (g : Ls) (hg : g ∈ G) : (g.c == x.c && (g.h != x.h && decide (g.u > now))) = false := by
  rw [Bool.eq_false_iff]
  intro hq
  simp only [Bool.and_eq_true, beq_iff_eq, bne_iff_ne, decide_eq_true_eq] at hq
  obtain ⟨y, hy, h1, h2, h3⟩ := h g hg hq.2.2
  have := hb y hy
  simp only [busyQ, holdsQ, Bool.and_eq_false_iff, beq_eq_false_iff_ne, bne_eq_false_iff_eq, decide_eq_false_iff_not] at this
  rcases this with (h4 | h4) | h4
  · exact h4 (by rw [h1, hq.1])
  · omega
  · exact hq.2.1 (by rw [← h2, h4])
theorem Given.more {now : Int} {A G : List Ls} {x : Ls} (h : Given now A G) (hb : ∀ y ∈ A, busyQ now x y = false) (hw : ∀ y ∈ A, newerQ x y = false) : Given now (grantL now x A) (G ++ [x]) := by
  intro g hg hu
  rcases List.mem_append.1 hg with hg | hg
  · obtain ⟨y, hy, h1, h2, h3⟩ := h g hg hu
    by_cases hc : y.c = x.c
    · have b := hb y hy
      have w := hw y hy
      simp only [busyQ, holdsQ, Bool.and_eq_false_iff, beq_eq_false_iff_ne, bne_eq_false_iff_eq, decide_eq_false_iff_not] at b
      simp only [newerQ, Bool.and_eq_false_iff, beq_eq_false_iff_ne, Bool.or_eq_false_iff, decide_eq_false_iff_not] at w
      rcases b with (b | b) | b
      · exact absurd hc b
      · omega
      · rcases w with w | w
        · exact absurd hc w
        · exact ⟨x, grant_mem.2 (.inl rfl), by rw [← hc, h1], by rw [← b, h2], by omega⟩
    · exact ⟨y, grant_mem.2 (.inr ⟨hy, hc, by omega⟩), h1, h2, h3⟩
  · simp at hg; subst hg
    exact ⟨g, grant_mem.2 (.inl rfl), rfl, rfl, Int.le_refl _⟩
theorem finL_col (G : List Ls) (i : Nat) : (finL G i 0).toI = (G.getD i nilLs).c ∧ (finL G i 1).toI = (G.getD i nilLs).h ∧ (finL G i 3).toI = (G.getD i nilLs).u := ⟨rfl, rfl, rfl⟩
theorem okG_fin {now : Int} {x : Ls} {G : List Ls} (h : ∀ g ∈ G, (g.c == x.c && (g.h != x.h && decide (g.u > now))) = false) : okG now x.c x.h (finL G) G.length = true := by
  rw [okG_eq, okFrom_iff]
  intro i hi
  rw [Nat.zero_add]
  have hm : G.getD i nilLs ∈ G := by
    rw [List.getD_eq_getElem?_getD, List.getElem?_eq_getElem hi]
    exact List.getElem_mem hi
  have := h _ hm
  show (!((G.getD i nilLs).c == x.c && ((G.getD i nilLs).h != x.h && decide ((G.getD i nilLs).u > now)))) = true
  rw [this]; rfl

/-! ### The law's loops -/
def pi42 (c : CS) : Plan := match c.ts with
  | [_, _, _, _, _, _, _, .osl _ 4 _ _ _ _ _, _, _] => s42n_p
  | _ => s42_p
theorem i42 (c : CS) (r : Nat × CS) (h : (r42 c).run = some r) : Loops (fun c => stepC EF 300 (loopC EF 4 2) 0 h42 ((.normal, h42) :: x42) (pi42 c) c) c r.1 r.2 := by
  unfold r42 at h
  split at h
  · obtain ⟨g, g2, now, a, xc, xh, xe, xu, m, q, nl, n, f, j, rfl, hb⟩ := r42n_inv h
    simp only [r42nB, T.run, Option.some.injEq] at hb; subst hb
    exact .out (s42n_eq g g2 now a xc xh xe xu m q nl n f j) (Seen.refl _)
  · obtain ⟨gl, k, g, now, a, xc, xh, xe, xu, m, q, nl, n, f, j, rfl, hb⟩ := r42m_inv h
    obtain ⟨hn, hb2⟩ := chkT_run hb
    have hk := le_of (hn 0 _ rfl)
    have hg := hn 1 _ rfl
    rw [okG_eq, okFrom_iff] at hg
    simp only [T.run, Option.some.injEq] at hb2; subst hb2
    refine Loops.for (C := fun i => c42 gl k g now a xc xh xe xu m q nl n f j i) (n := k) (fun i hi => ?_) ?_
    · have e := s42_eq gl k g now a xc xh xe xu m q nl n f j i
      rw [lt1 hi, ix_, blt_t hi, wrap_i64s (by omega)] at e
      have hgi := hg i hi
      rw [Nat.zero_add] at hgi
      cases h1 : ((g i 0).toI == xc) with
      | false => rw [h1] at e; exact ⟨_, e, Seen.refl _⟩
      | true =>
        rw [h1] at e hgi
        cases h2 : ((g i 1).toI != xh) with
        | false => rw [h2] at e; exact ⟨_, e, Seen.refl _⟩
        | true =>
          rw [h2] at e hgi
          cases h3 : decide ((g i 3).toI > now) with
          | false => rw [h3] at e; exact ⟨_, e, Seen.refl _⟩
          | true => rw [h3] at hgi; cases hgi
    · have e := s42_eq gl k g now a xc xh xe xu m q nl n f j k
      rw [lt0] at e
      exact ⟨_, e, Seen.refl _⟩
theorem gG : Bm.Good Try.prog EG := gF.addS (by kernel_rfl) rfl (by decide) (by decide) rfl i42
def pi4 (c : CS) : Plan := match c.ts with
  | [.nilSlice, _, _, _, _, _] => s4t_p
  | _ => s4_p
def st4 (nl : Bool) (n : Nat) (f : Nat → Nat → AV) (x : Nat × Int × List Ls × List Ls) : CS := match x.2.2.2 with
  | [] => c4t x.2.1 nl n f x.1
  | _ :: _ => c4 false x.2.2.1.length (finL x.2.2.1) false x.2.2.2.length (finL x.2.2.2) x.2.1 nl n f x.1
theorem st4_nn {nl : Bool} {n j : Nat} {f : Nat → Nat → AV} {now : Int} {A G : List Ls} (h : G ≠ []) : st4 nl n f (j, now, A, G) = c4 false A.length (finL A) false G.length (finL G) now nl n f j := by
  cases G with
  | nil => exact absurd rfl h
  | cons y l => rfl
theorem seen4 {nl : Bool} {n j m k : Nat} {f q g : Nat → Nat → AV} {now w : Int} {A G : List Ls} (h : G ≠ []) (hm : m = A.length) (hq : IsR q A) (hk : k = G.length) (hg : IsR g G) (hw : w = (j : Nat)) :
    Seen ⟨[.osl false 0 0 m m 4 true, .osl false 1 0 k k 4 true, .int .u64 now, .osl nl 2 0 n n 5 true, .int .i64 (n : Nat), .int .i64 w], [some (.tarr shL m q true), some (.tarr shL k g true), some (.tarr shX n f false)]⟩ (st4 nl n f (j, now, A, G)) := by
  rw [st4_nn h]
  subst hm; subst hk; subst hw
  exact Seen.mk' (SeenVs.refl _) (.cons (SeenO.ls rfl hq) (.cons (SeenO.ls rfl hg) (SeenOs.refl _)))
theorem seen4n {nl : Bool} {n j : Nat} {f q g : Nat → Nat → AV} {now w : Int} (hw : w = (j : Nat)) :
    Seen ⟨[.osl true 0 0 0 0 4 true, .osl true 1 0 0 0 4 true, .int .u64 now, .osl nl 2 0 n n 5 true, .int .i64 (n : Nat), .int .i64 w], [some (.tarr shL 0 q true), some (.tarr shL 0 g true), some (.tarr shX n f false)]⟩ (st4 nl n f (j, now, [], [])) := by
  subst hw
  exact Seen.mk' (.cons SeenV.nil (.cons SeenV.nil (SeenVs.refl _))) (.skip (.skip (SeenOs.refl _)))
structure Inv4 (n j : Nat) (now : Int) (A G : List Ls) : Prop where
  le : j ≤ n
  nil : G = [] → A = []
  la : A.length ≤ j
  lg : G.length ≤ j
  giv : Given now A G
theorem nowle (a now : Int) : now ≤ (if a > now then a else now) := by split <;> omega
theorem step4 (nl : Bool) (n : Nat) (f : Nat → Nat → AV) (hn : n ≤ 100) (j : Nat) (now : Int) (A G : List Ls) (hi : j < n) (hI : Inv4 n j now A G) :
    ∃ c1 now' A' G', stepC EG 600 (loopC EG 4 0) 0 h4 ((.normal, h4) :: x4) (pi4 (st4 nl n f (j, now, A, G))) (st4 nl n f (j, now, A, G)) = some (0, c1) ∧ Seen c1 (st4 nl n f (j + 1, now', A', G')) ∧ Inv4 n (j + 1) now' A' G' := by
  have hlow := nowle (f j 0).toI now
  have stay : ∀ nw, now ≤ nw → Inv4 n (j + 1) nw A G := fun nw h => ⟨by omega, hI.nil, by have := hI.la; omega, by have := hI.lg; omega, hI.giv.later h⟩
  cases hG : G with
  | nil =>
    have hA := hI.nil hG
    subst hG; subst hA
    have e := s4t_eq now nl n f j
    rw [lt1 hi, ix_, blt_t hi, wrap_i64s (by omega)] at e
    generalize (if (f j 0).toI > now then (f j 0).toI else now) = nw at e hlow
    generalize hx : Ls.mk (f j 1).toI (f j 2).toI (f j 3).toI (f j 4).toI = x at e
    cases h1 : argV nw x with
    | true => rw [h1] at e; exact ⟨_, nw, [], [], e, seen4n rfl, stay nw hlow⟩
    | false =>
      rw [h1] at e
      have hL : aV nw x (fun _ _ => AV.bad) 0 = [x] := by rw [aV_eq]; rfl
      rw [hL] at e
      have hid : idx (holdsQ nw (f j 1).toI) (finL [x]) [x].length = 0 := by
        rw [idx_eq, rdL_fin]
        have : holdsQ nw (f j 1).toI x = true := by
          have h2 := arg_until h1
          subst hx
          simp only [holdsQ, beq_self_eq_true, Bool.true_and, decide_eq_true_eq]
          exact h2
        simp only [firstL, this, cond_true]
      rw [hid] at e
      have hv : lsAt (finL [x]) 0 = x := lsAt_fin _ _
      rw [hv] at e
      subst hx
      simp only [beq_self_eq_true, Bool.and_true] at e
      refine ⟨_, nw, [⟨(f j 1).toI, (f j 2).toI, (f j 3).toI, (f j 4).toI⟩], [⟨(f j 1).toI, (f j 2).toI, (f j 3).toI, (f j 4).toI⟩], e, seen4 (by simp) rfl (isR_fin _) rfl (isR_one _) rfl, ?_⟩
      refine ⟨by omega, fun h => by simp at h, by simp, by simp, fun g hg _ => ⟨g, hg, rfl, rfl, Int.le_refl _⟩⟩
  | cons y l =>
    have hne : G ≠ [] := by rw [hG]; simp
    rw [← hG, st4_nn hne]
    clear hG
    have hla := hI.la
    have hlg := hI.lg
    have e := s4_eq A.length (finL A) G.length (finL G) now nl n f j
    rw [lt1 hi, ix_, blt_t hi, wrap_i64s (by omega), ble_t (show A.length ≤ 1000 by omega)] at e
    generalize (if (f j 0).toI > now then (f j 0).toI else now) = nw at e hlow
    generalize hx : Ls.mk (f j 1).toI (f j 2).toI (f j 3).toI (f j 4).toI = x at e
    cases h1 : argV nw x with
    | true => rw [h1] at e; exact ⟨_, nw, A, G, e, seen4 hne rfl (isR_fin _) rfl (isR_fin _) rfl, stay nw hlow⟩
    | false =>
      rw [h1] at e
      rw [show idx (busyQ nw x) (finL A) A.length = firstL (busyQ nw x) A by rw [idx_eq, rdL_fin], show idx (newerQ x) (finL A) A.length = firstL (newerQ x) A by rw [idx_eq, rdL_fin]] at e
      by_cases h2 : firstL (busyQ nw x) A < A.length
      · rw [blt_t h2] at e; exact ⟨_, nw, A, G, e, seen4 hne rfl (isR_fin _) rfl (isR_fin _) rfl, stay nw hlow⟩
      · rw [blt_f h2] at e
        by_cases h3 : firstL (newerQ x) A < A.length
        · rw [blt_t h3] at e; exact ⟨_, nw, A, G, e, seen4 hne rfl (isR_fin _) rfl (isR_fin _) rfl, stay nw hlow⟩
        · rw [blt_f h3] at e
          have hb := firstL_all h2
          have hw := firstL_all h3
          have hgv := hI.giv.later hlow
          have hok : okG nw (f j 1).toI (f j 2).toI (finL G) G.length = true := by
            have := okG_fin (now := nw) (x := x) (G := G) fun g hg => hgv.ok hb g hg
            rw [← hx] at this
            exact this
          have hL : aV nw x (finL A) A.length = grantL nw x A := by rw [aV_eq, rdL_fin]
          rw [hok, hL] at e
          have hln := grant_len nw x A
          obtain ⟨f1, f2⟩ := grant_first (A := A) (arg_until h1)
          have hmore := hgv.more hb hw
          have hid : idx (holdsQ nw (f j 1).toI) (finL (grantL nw x A)) (grantL nw x A).length = firstL (holdsQ nw x.c) (grantL nw x A) := by
            rw [idx_eq, rdL_fin, ← hx]
          rw [hid, lsAt_fin, f2] at e
          rw [ble_t (show G.length ≤ 1000 by omega), ble_f (show ¬ G.length + 1 ≤ G.length by omega), growt (show G.length + 1 ≤ 2000000 by omega), ble_t (show 0 + G.length ≤ G.length by omega), ble_t (show (grantL nw x A).length ≤ 1000 by omega), blt_t f1] at e
          have hxe : ((f j 1).toI, (f j 2).toI, (f j 3).toI, (f j 4).toI) = (x.c, x.h, x.e, x.u) := by rw [← hx]
          simp only [Prod.mk.injEq] at hxe
          obtain ⟨x1, x2, x3, x4⟩ := hxe
          rw [x1, x2, x3, x4] at e
          simp only [beq_self_eq_true, Bool.and_true] at e
          refine ⟨_, nw, grantL nw x A, G ++ [x], e, seen4 (by simp) rfl (isR_fin _) (by simp) (isR_join rfl (isR_zero (isR_fin G)) (isR_one x)) rfl, ?_⟩
          exact ⟨by omega, fun h => by simp at h, by omega, by simp; omega, hmore⟩
theorem i4 (c : CS) (r : Nat × CS) (h : (r4 c).run = some r) : Loops (fun c => stepC EG 600 (loopC EG 4 0) 0 h4 ((.normal, h4) :: x4) (pi4 c) c) c r.1 r.2 := by
  obtain ⟨q, g, nl, n, f, rfl, hb⟩ := r4_inv h
  obtain ⟨hn, hb2⟩ := chkT_run hb
  have hn := le_of (hn 0 _ rfl)
  simp only [T.run, Option.some.injEq] at hb2; subst hb2
  refine .see (c1 := st4 nl n f (0, 0, [], [])) (seen4n rfl) ?_
  refine Loops.inv (C := st4 nl n f) (fun x => Inv4 n x.1 x.2.1 x.2.2.1 x.2.2.2) (fun x => n - x.1) (fun _ => (1, ⟨[], []⟩)) (fun x hx => ?_) (0, 0, [], []) ⟨Nat.zero_le _, fun _ => rfl, Nat.le_refl _, Nat.le_refl _, fun g hg => by simp at hg⟩
  obtain ⟨j, now, A, G⟩ := x
  simp only at hx
  by_cases hj : j = n
  · subst hj
    refine .inr ⟨⟨[], []⟩, 0, ?_, rfl, Seen.refl _⟩
    cases G with
    | nil =>
      have e := s4t_eq now nl j f j
      rw [lt0] at e
      exact e
    | cons y l =>
      have e := s4_eq A.length (finL A) (y :: l).length (finL (y :: l)) now nl j f j
      rw [lt0] at e
      exact e
  · have := hx.le
    obtain ⟨c1, now', A', G', h1, h2, h3⟩ := step4 nl n f hn j now A G (by omega) hx
    exact .inl ⟨c1, (j + 1, now', A', G'), h1, h2, h3, by simp only; omega, rfl⟩
theorem gH : Bm.Good Try.prog EH := (gG.addS (by kernel_rfl) rfl (by decide) (by decide) rfl i4).addF (lives_ok (m := 5000) gG (by kernel_rfl))
noncomputable def kl (nlx0 : Bool) (x0 : Nat) (fx0 : Nat → Nat → AV) (π : Plan) : Option Bool := lawT (EH) (2000) (4) ([.osl nlx0 0 0 x0 x0 5 true]) ([some (.tarr shX x0 fx0 false)]) π
def kl_p : Plan := (.fork .stop (.reck 7 (.must true (.must true (.reck 6 (.must true (.fork .stop .stop)))))))
theorem kl_is (nlx0 : Bool) (x0 : Nat) (fx0 : Nat → Nat → AV) : kl nlx0 x0 fx0 kl_p = (cond (decide ((↑x0 : Int) > 100))
  (some (true))
  (cond (decide (x0 = x0)) (cond (decide ((↑x0 : Int) = (↑x0 : Int))) (cond (decide (x0 = x0)) (cond (Nat.ble x0 100)
  (some (true))
  none) none) none) none)) := by kernel_rfl
theorem kl_eq (nlx0 : Bool) (x0 : Nat) (fx0 : Nat → Nat → AV) : kl nlx0 x0 fx0 kl_p = (cond (decide ((↑x0 : Int) > 100))
  (some (true))
  (cond (Nat.ble x0 100)
  (some (true))
  none)) := by
  rw [kl_is]
  try simp only [eq_self, decide_true, beq_self_eq_true, Nat.beq_refl, ble_self, Int.le_refl, Nat.le_refl]
  cases (decide ((↑x0 : Int) > 100)) with
  | true =>
    rfl
  | false =>
    cases (Nat.ble x0 100) with
    | true =>
      rfl
    | false =>
      rfl

theorem kl_true (nlx0 : Bool) (x0 : Nat) (fx0 : Nat → Nat → AV) : kl nlx0 x0 fx0 kl_p = some true := by
  rw [kl_eq]
  by_cases h : (x0 : Int) > 100
  · rw [decide_eq_true h]; rfl
  · rw [decide_eq_false h, ble_t (show x0 ≤ 100 by omega)]; rfl

theorem own : ownKnob Try.prog.godebug = none := by kernel_rfl
theorem laidOut : laidOutB Try.prog = true := by kernel_rfl
theorem readable : ((Try.f4.params.toList).all fun t => Try.prog.readableRec t && Nat.blt t Try.prog.types.size) = true := by kernel_rfl
theorem fits : argsIs Try.prog [.one (.sl shX)] Try.f4.params.toList = true := by kernel_rfl
set_option maxRecDepth 100000 in
theorem walk {H : Type} {enc : TypeId × Value → H} (W : World) (args : Array Value) (base : Nat) (ds : List (DataW H)) (p : List MemPlace) (hA : DataW.TrodAll enc Try.prog W 0 (fun _ => true) true Try.f4.params.toList args.toList ds p)
    (hval : ∀ (j : Nat) t v, Try.f4.params[j]? = some t → args[j]? = some v → Value.okWide Try.prog W .any base t v) : Calls Try.prog 4 args W fun e W' => e = .returned (.bool true) ∧ Below W.heap.size W W' := by
    obtain ⟨xs, os1, φ', hI, _, h3, h4⟩ := args_ok (base := base) (P := Try.prog) (fun _ => rfl) fits hA (fun j t v h1 h2 => hval j t v (by rw [← Array.getElem?_toList]; exact h1) (by rw [← Array.getElem?_toList]; exact h2)) (RO.nil W)
    obtain ⟨_, _, _, _, rfl, rfl, ⟨nlx0, x0, fx0, rfl, rfl, hnx0, hlx0, y0⟩, hI⟩ := hI
    obtain ⟨rfl, rfl⟩ := hI
    have hl := kl_true nlx0 x0 fx0
    have := law_T gH h4.rel h3 hl
    simpa using this
set_option maxRecDepth 100000 in
theorem lifted (os : Os) (started : os.Started) (H : Type) (enc : TypeId × Value → H) :
    ReturnsInHanded {} Try.checked os 4 .any (Rows.placeOneSpec.pre6 enc Try.prog Try.f4 Rows.placeOneRow.domain false) (Rows.placeOneSpec.post enc Try.prog Try.f4 false true false false) := by
  refine returnsInHanded_of_change_sized (C := Try.checked) own started (by kernel_rfl) Try.func4
    (ChangeSpec.witness6 (enc := enc) (C := Try.checked) false ⟨#[], #[.slice none 0 0], []⟩ 8 (by kernel_rfl) (by kernel_rfl) (by kernel_rfl) (by kernel_rfl)) ?_
  intro W base args ds gs before hval0 hW hcnd hsz0 _
  have hW' := hW
  obtain ⟨p, q, hA0, hV, rfl, hfz, hnd⟩ := hW
  have hA : DataW.TrodAll enc Try.prog W 0 (fun _ => true) true Try.f4.params.toList args.toList ds p := hA0
  obtain ⟨rfl, rfl⟩ := trodVars_none hV
  obtain ⟨d1, rfl⟩ : ∃ d1, ds = [d1] := by
    have hA := hA
    obtain ⟨_, _, d1, ds1, _, _, _, rfl, _, _, hA⟩ := trodAll_cons hA
    obtain ⟨_, rfl, _⟩ := trodAll_nil hA
    exact ⟨d1, rfl⟩
  refine (walk W args base _ p hA hval0).mono fun e W' ⟨he, bel⟩ => ?_
  subst he
  exact ⟨_, rfl, _, _, _, [], _, [], hW', trodAll_mk1 (shut_bool Try.underlying4 _), trods_below (ts := []) laidOut bel readable hA, rfl, bel.frame _, fun h => by cases h⟩
theorem over : Rows.placeOneRow.holds Try.pinned (OpenSpec.ofChange Rows.placeOneSpec) :=
  OpenClaim.holds_of_wide 4 Try.f4 rfl rfl rfl rfl rfl rfl rfl ⟨rfl, rfl, rfl, rfl, rfl⟩ rfl rfl rfl rfl rfl (by kernel_rfl) Try.func4 (by kernel_rfl)
    (of_decide_eq_true (by kernel_rfl)) (by unfold Func.isWrapper; first | (rw [if_pos (by decide +kernel)]; kernel_rfl) | (rw [if_neg (by decide +kernel)]; exact ⟨rfl, rfl⟩))
    (fun os started H enc _ => lifted os started H enc)
theorem proved : Rows.PlaceOneSaid := over
#print axioms proved
end Go.Proofs.Ytckpljmiodgejaa.placeOne
