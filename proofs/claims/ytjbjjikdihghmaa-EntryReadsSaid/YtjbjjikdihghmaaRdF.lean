/- Entries, read: loops. -/
import Derived.Test.YtjbjjikdihghmaaRdD
import Derived.Test.YtjbjjikdihghmaaRdE
set_option linter.unusedSimpArgs false
set_option linter.unusedVariables false
set_option maxRecDepth 20000
namespace Go.Proofs.Ytjbjjikdihghmaa.entry
open Go Go.RowKit Go.Proofs.Ytjbjjikdihghmaa.Bm
theorem fail14 (n : Int) (i : Nat) : Loops (fun c => stepC F5 1000 (loopC F5 14 0) 1 h14 ((.normal, h14) :: x14) (p14 c) c) (c14b n i) 1 FAIL14 := by
  have e := s14b_eq n i
  cases hd : decide ((i : Int) < n) <;> rw [hd] at e <;> exact .out e (Seen.refl _)
theorem b14 {n : Int} {i : Nat} (hi : i < 1000) {s : AV} (hs : SeenV s .nilSlice) {x1 x2 x3 x4 x5 x6 x7 x8 x9 x10 : AV} {o3 o4 : Option AObj} :
    Seen ⟨[.ptr 0 0, .ptr 1 0, .ptr 2 0, .int .i64 n, .int .i64 (IntKind.wrap .i64 ((i : Int) + 1))], [some (.cells [s, .bool true] true), some (.cells [.bad, .bad, .bad, .bad, .bad, .bad, .bad, .bad, .bad, .bad] true), some (.cells [x1, x2, x3, x4, x5, x6, x7, x8, x9, x10] true), o3, o4]⟩ (c14b n (i + 1)) :=
  Seen.mk' (.cons (SeenV.refl _) (.cons (SeenV.refl _) (.cons (SeenV.refl _) (.cons (SeenV.refl _) (.cons (SeenV.of_eq (by rw [wrap_i64s (by omega)])) .nil)))))
    (.cons (SeenO.cells (.cons hs (SeenVs.refl _))) (.cons (SeenO.refl _) (.cons (SeenO.cells (.cons SeenV.bad (.cons SeenV.bad (.cons SeenV.bad (.cons SeenV.bad (.cons SeenV.bad (.cons SeenV.bad (.cons SeenV.bad (.cons SeenV.bad (.cons SeenV.bad (.cons SeenV.bad .nil))))))))))) (.skip (.skip .nil)))))
theorem rows_at {f : Nat → Nat → AV} {off j : Nat} {o : Nat} (ho : o = off + 24 * j) {F : Nat → Nat → AV} (hF : ∀ a b, a < j → F a b = lookF f off a b) {i : Nat} (hi : i < j + 1) {q : Nat} {s : Sh} (hs : shL[q]? = some s) :
    view s (fjoin F j (rowsOf 4 [.int .u64 (val f o 8), .int .u64 (val f (o + 8) 8), .int .u32 (IntKind.wrap .u32 (val f (o + 16) 4)), .int .u32 (IntKind.wrap .u32 (val f (o + 20) 4))] 1) i q) = view s (lookF f off i q) := by
  subst ho
  unfold fjoin
  rw [blt_iff]
  by_cases h : i < j
  · rw [decide_eq_true h, cond_true, hF i q h]
  · have : i = j := by omega
    subst this
    rw [decide_eq_false h, cond_false]
    match q, hs with
    | 0, hs => simp at hs; subst hs; rfl
    | 1, hs => simp at hs; subst hs; rfl
    | 2, hs => simp at hs; subst hs; rfl
    | 3, hs => simp at hs; subst hs; rfl
    | q + 4, hs => simp at hs
theorem grow24 {n : Nat} (h : n ≤ 2000) : growB 24 n = true := by
  unfold growB
  rw [ble_t (show n ≤ 281474976710656 by omega), ble_t (show n * 24 ≤ 17179869184 by omega)]; rfl
theorem l14 (nl : Bool) (off N : Nat) (f : Nat → Nat → AV) (ix tm st kd cl rq fr ct : Int) (d : List Nat) (K : Nat) (hK : K ≤ 64) (hok : okB f N = true) (hN : N ≤ 1000000) : ∀ (r j : Nat), j + r = K → 1 ≤ j → off + 24 * j ≤ N →
    Loops (fun c => stepC F5 1000 (loopC F5 14 0) 1 h14 ((.normal, h14) :: x14) (p14 c) c) (c14f nl (off + 24 * j) N f ix tm st kd cl rq fr ct d j (lookF f off) K j) 1
      (cond (Nat.blt N (off + 24 * K)) FAIL14 ⟨[.ptr 0 0, .ptr 1 0, .ptr 2 0], [some (.cells [.osl nl 3 (off + 24 * K) (N - (off + 24 * K)) (N - (off + 24 * K)) 1 true, .bool false] true), some (.cells b10 true), some (.cells [.int .u64 ix, .int .u64 tm, .int .u64 st, .int .i64 kd, .int .u64 cl, .int .u64 rq, .int .u32 fr, .int .u32 ct, .str d, .osl false 4 0 K K 4 true] true), some (.tarr shB N f false), some (.tarr shL K (lookF f off) true)]⟩)
  | 0, j, hj, _, hb => by
    have : j = K := by omega
    subst this
    have e := s14f_eq nl (off + 24 * j) N f ix tm st kd cl rq fr ct d j (lookF f off) j j
    rw [lt0] at e
    rw [blt_f (show ¬ N < off + 24 * j by omega)]
    exact .out e (Seen.refl _)
  | r + 1, j, hj, h1, hb => by
    have e := s14f_eq nl (off + 24 * j) N f ix tm st kd cl rq fr ct d j (lookF f off) K j
    have hB : ∀ x, N < off + 24 * j + x → x ≤ 24 → Nat.blt N (off + 24 * K) = true := fun x h1 h2 => blt_t (by omega)
    rw [lt1 (show j < K by omega), hok, ble_t hb, ble_t hN, ble_f (show ¬ j + 1 ≤ j by omega), grow24 (by omega), ble_t (show 0 + j ≤ j by omega)] at e
    by_cases q1 : N < off + 24 * j + 8
    · rw [blt_t q1] at e
      rw [hB _ q1 (by omega)]
      exact .go e (b14 (by omega) SeenV.nil) (fail14 _ _)
    · rw [blt_f q1] at e
      by_cases q2 : N < off + 24 * j + 16
      · rw [blt_t q2] at e
        rw [hB _ q2 (by omega)]
        exact .go e (b14 (by omega) SeenV.nil) (fail14 _ _)
      · rw [blt_f q2] at e
        by_cases q3 : N < off + 24 * j + 20
        · rw [blt_t q3] at e
          rw [hB _ q3 (by omega)]
          exact .go e (b14 (by omega) SeenV.nil) (fail14 _ _)
        · rw [blt_f q3] at e
          by_cases q4 : N < off + 24 * j + 24
          · rw [blt_t q4] at e
            rw [hB _ q4 (by omega)]
            exact .go e (b14 (by omega) SeenV.nil) (fail14 _ _)
          · rw [blt_f q4] at e
            refine .go e (Seen.mk' (.cons (SeenV.refl _) (.cons (SeenV.refl _) (.cons (SeenV.refl _) (.cons (SeenV.refl _) (.cons (SeenV.of_eq ?_) .nil))))) (.cons (SeenO.cells (.cons (SeenV.of_eq ?_) (SeenVs.refl _))) (.cons (SeenO.refl _) (.cons (SeenO.refl _) (.cons (SeenO.refl _) (.cons (SeenO.arr fun i hi q s hs => ?_) .nil)))))) (l14 nl off N f ix tm st kd cl rq fr ct d K hK hok hN r (j + 1) (by omega) (by omega) (by omega))
            · rw [wrap_i64s (by omega)]
            · rw [show off + 24 * j + 24 = off + 24 * (j + 1) by omega]
            · exact rows_at rfl (fun a b _ => by rw [Nat.zero_add]) hi hs
theorem i14 (c : CS) (r : Nat × CS) (h : (r14 c).run = some r) : Loops (fun c => stepC F5 1000 (loopC F5 14 0) 1 h14 ((.normal, h14) :: x14) (p14 c) c) c r.1 r.2 := by
  unfold r14 at h
  cases hb : badP c with
  | true =>
    rw [hb] at h
    simp only [cond_true] at h
    unfold r14f at h
    split at h
    · rename_i n z0 z _ _ _ _ x1 x2 x3 x4 x5 x6 x7 x8 x9 x10 y1 y2 y3 y4 y5 y6 y7 y8 y9 y10 _ _
      obtain ⟨hn, hb2⟩ := chkT_run h
      have e1 := of_decide_eq_true (hn 0 _ rfl)
      have e2 := hn 1 _ rfl
      subst e1; subst e2
      simp only [T.run, Option.some.injEq] at hb2; subst hb2
      refine .see (c1 := c14b n 0) (Seen.mk' (SeenVs.refl _) (.cons (SeenO.cells (.cons SeenV.nil (SeenVs.refl _))) (.cons (SeenO.cells ?_) (.cons (SeenO.cells ?_) (.skip (.skip .nil)))))) (fail14 n 0)
      · exact (.cons SeenV.bad (.cons SeenV.bad (.cons SeenV.bad (.cons SeenV.bad (.cons SeenV.bad (.cons SeenV.bad (.cons SeenV.bad (.cons SeenV.bad (.cons SeenV.bad (.cons SeenV.bad .nil))))))))))
      · exact (.cons SeenV.bad (.cons SeenV.bad (.cons SeenV.bad (.cons SeenV.bad (.cons SeenV.bad (.cons SeenV.bad (.cons SeenV.bad (.cons SeenV.bad (.cons SeenV.bad (.cons SeenV.bad .nil))))))))))
    · cases h
  | false =>
    rw [hb] at h
    simp only [cond_false] at h
    unfold r14o at h
    split at h
    · rename_i n z0 nl off l l2 x1 x2 x3 x4 x5 x6 x7 x8 x9 x10 ix tm st kd cl rq fr ct d z1 _ _ _ _ sh N f _
      obtain ⟨hn, hb2⟩ := chkT_run h
      have e1 := of_decide_eq_true (hn 0 _ rfl)
      have e2 := of_decide_eq_true (hn 1 _ rfl)
      have e3 := of_decide_eq_true (hn 2 _ rfl)
      have e4 := hn 3 _ rfl
      have e5 := (shBeq_eq (hn 4 _ rfl)).symm
      have hok := hn 5 _ rfl
      have hoN := le_of (hn 6 _ rfl)
      have hN := le_of (hn 7 _ rfl)
      have h64 := not_gt (hn 8 _ rfl)
      subst e1; subst e2; subst e3; subst e4; subst e5
      clear hn h hb
      refine .see (c1 := c14t nl off N f ix tm st kd cl rq fr ct d n 0) (Seen.mk' (SeenVs.refl _) (.cons (SeenO.refl _) (.cons (SeenO.cells ?_) (.cons (SeenO.cells ?_) (.cons (SeenO.refl _) (.skip .nil)))))) ?_
      · exact (.cons SeenV.bad (.cons SeenV.bad (.cons SeenV.bad (.cons SeenV.bad (.cons SeenV.bad (.cons SeenV.bad (.cons SeenV.bad (.cons SeenV.bad (.cons SeenV.bad (.cons SeenV.bad .nil))))))))))
      · exact (.cons (SeenV.refl _) (.cons (SeenV.refl _) (.cons (SeenV.refl _) (.cons (SeenV.refl _) (.cons (SeenV.refl _) (.cons (SeenV.refl _) (.cons (SeenV.refl _) (.cons (SeenV.refl _) (.cons (SeenV.refl _) (.cons SeenV.nil .nil))))))))))
      have e := s14t_eq nl off N f ix tm st kd cl rq fr ct d n 0
      simp only [T.run] at hb2
      by_cases h0 : n.toNat = 0
      · rw [h0, Nat.beq_refl] at hb2
        simp only [cond_true, Option.some.injEq] at hb2; subst hb2
        rw [decide_eq_false (show ¬ ((0 : Nat) : Int) < n by omega)] at e
        exact .out e (Seen.refl _)
      · have hz : Nat.beq n.toNat 0 = false := by rw [beq_iff, decide_eq_false h0]
        rw [hz] at hb2
        simp only [cond_false] at hb2
        obtain ⟨K, rfl⟩ : ∃ K : Nat, n = (K : Int) := ⟨n.toNat, by omega⟩
        simp only [Int.toNat_natCast] at hb2 h0
        have hr : r = (1, cond (Nat.blt N (off + 24 * K)) FAIL14 ⟨[.ptr 0 0, .ptr 1 0, .ptr 2 0], [some (.cells [.osl nl 3 (off + 24 * K) (N - (off + 24 * K)) (N - (off + 24 * K)) 1 true, .bool false] true), some (.cells b10 true), some (.cells [.int .u64 ix, .int .u64 tm, .int .u64 st, .int .i64 kd, .int .u64 cl, .int .u64 rq, .int .u32 fr, .int .u32 ct, .str d, .osl false 4 0 K K 4 true] true), some (.tarr shB N f false), some (.tarr shL K (lookF f off) true)]⟩) := by
          cases hq : Nat.blt N (off + 24 * K) <;> rw [hq] at hb2 <;> simp only [cond_true, cond_false, Option.some.injEq] at hb2 <;> exact hb2.symm
        subst hr; clear hb2
        have hB : ∀ x, N < off + x → x ≤ 24 → Nat.blt N (off + 24 * K) = true := fun x h1 h2 => blt_t (by omega)
        rw [lt1 (show 0 < K by omega), hok, ble_t hoN, ble_t hN] at e
        by_cases q1 : N < off + 8
        · rw [blt_t q1] at e
          rw [hB _ q1 (by omega)]
          exact .go e (b14 (by omega) SeenV.nil) (fail14 _ _)
        · rw [blt_f q1] at e
          by_cases q2 : N < off + 16
          · rw [blt_t q2] at e
            rw [hB _ q2 (by omega)]
            exact .go e (b14 (by omega) SeenV.nil) (fail14 _ _)
          · rw [blt_f q2] at e
            by_cases q3 : N < off + 20
            · rw [blt_t q3] at e
              rw [hB _ q3 (by omega)]
              exact .go e (b14 (by omega) SeenV.nil) (fail14 _ _)
            · rw [blt_f q3] at e
              by_cases q4 : N < off + 24
              · rw [blt_t q4] at e
                rw [hB _ q4 (by omega)]
                exact .go e (b14 (by omega) SeenV.nil) (fail14 _ _)
              · rw [blt_f q4] at e
                refine .go e (Seen.mk' (.cons (SeenV.refl _) (.cons (SeenV.refl _) (.cons (SeenV.refl _) (.cons (SeenV.refl _) (.cons (SeenV.of_eq ?_) .nil))))) (.cons (SeenO.cells (.cons (SeenV.of_eq ?_) (SeenVs.refl _))) (.cons (SeenO.refl _) (.cons (SeenO.refl _) (.cons (SeenO.refl _) (.cons (SeenO.arr fun i hi q s hs => ?_) .nil)))))) (l14 nl off N f ix tm st kd cl rq fr ct d K (by omega) hok hN (K - 1) 1 (by omega) (by omega) (by omega))
                · rfl
                · rfl
                · have : i = 0 := by omega
                  subst this
                  match q, hs with
                  | 0, hs => simp at hs; subst hs; rfl
                  | 1, hs => simp at hs; subst hs; rfl
                  | 2, hs => simp at hs; subst hs; rfl
                  | 3, hs => simp at hs; subst hs; rfl
                  | q + 4, hs => simp at hs
    · cases h
theorem q6 : Bm.Good Try.prog F6 := q5.addS (by kernel_rfl) rfl (by decide) (by decide) rfl i14
theorem wrap_u64s {i : Nat} (h : i < 999999999) : IntKind.wrap .u64 ((i : Int) + 1) = ((i + 1 : Nat) : Int) := by
  rw [wrap_u64 (by omega) (by omega)]; simp
theorem fail15 (nl : Bool) (N : Nat) (f : Nat → Nat → AV) (n : Int) (i : Nat) : Loops (fun c => stepC F6 1000 (loopC F6 15 0) 1 h15 ((.normal, h15) :: x15) (p15 c) c) (c15b nl N f n i) 1 (FAIL15 nl N f) := by
  have e := s15b_eq nl N f n i
  cases hd : decide ((i : Int) < n) <;> rw [hd] at e <;> exact .out e (Seen.refl _)
theorem b15 {nl : Bool} {N : Nat} {f : Nat → Nat → AV} {n : Int} {i : Nat} (hi : i < 1000) {x1 x2 x3 x4 x5 x6 x7 x8 x9 x10 : AV} {o4 : Option AObj} :
    Seen ⟨[.ptr 0 0, .ptr 1 0, .ptr 2 0, .int .u64 n, .int .u64 (IntKind.wrap .u64 ((i : Int) + 1))], [some (.cells [.osl nl 3 0 N N 1 true, .bad, .bool true] true), some (.cells [.bad, .bad, .bad, .bad, .bad, .bad, .bad, .bad, .bad, .bad] true), some (.cells [x1, x2, x3, x4, x5, x6, x7, x8, x9, x10] true), some (.tarr shB N f false), o4]⟩ (c15b nl N f n (i + 1)) :=
  Seen.mk' (.cons (SeenV.refl _) (.cons (SeenV.refl _) (.cons (SeenV.refl _) (.cons (SeenV.refl _) (.cons (SeenV.of_eq (by rw [wrap_u64s (by omega)])) .nil)))))
    (.cons (SeenO.refl _) (.cons (SeenO.refl _) (.cons (SeenO.cells (.cons SeenV.bad (.cons SeenV.bad (.cons SeenV.bad (.cons SeenV.bad (.cons SeenV.bad (.cons SeenV.bad (.cons SeenV.bad (.cons SeenV.bad (.cons SeenV.bad (.cons SeenV.bad .nil))))))))))) (.cons (SeenO.refl _) (.skip .nil)))))
theorem l15 (nl : Bool) (off N : Nat) (f : Nat → Nat → AV) (ix tm st kd cl rq fr ct : Int) (d : List Nat) (K : Nat) (hK : K ≤ 64) (hok : okB f N = true) (hN : N ≤ 1000000) : ∀ (r j : Nat), j + r = K → 1 ≤ j → off + 24 * j ≤ N →
    Loops (fun c => stepC F6 1000 (loopC F6 15 0) 1 h15 ((.normal, h15) :: x15) (p15 c) c) (c15f nl (off + 24 * j) N f ix tm st kd cl rq fr ct d j (lookF f off) K j) 1
      (cond (Nat.blt N (off + 24 * K)) (FAIL15 nl N f) ⟨[.ptr 0 0, .ptr 1 0, .ptr 2 0], [some (.cells [.osl nl 3 0 N N 1 true, .int .i64 ((off + 24 * K : Nat) : Int), .bool false] true), some (.cells b10 true), some (.cells [.int .u64 ix, .int .u64 tm, .int .u64 st, .int .i64 kd, .int .u64 cl, .int .u64 rq, .int .u32 fr, .int .u32 ct, .str d, .osl false 4 0 K K 4 true] true), some (.tarr shB N f false), some (.tarr shL K (lookF f off) true)]⟩)
  | 0, j, hj, _, hb => by
    have : j = K := by omega
    subst this
    have e := s15f_eq nl (off + 24 * j) N f ix tm st kd cl rq fr ct d j (lookF f off) j j
    rw [lt0] at e
    rw [blt_f (show ¬ N < off + 24 * j by omega)]
    exact .out e (Seen.refl _)
  | r + 1, j, hj, h1, hb => by
    have e := s15f_eq nl (off + 24 * j) N f ix tm st kd cl rq fr ct d j (lookF f off) K j
    have hB : ∀ x, N < off + 24 * j + x → x ≤ 24 → Nat.blt N (off + 24 * K) = true := fun x h1 h2 => blt_t (by omega)
    rw [lt1 (show j < K by omega), hok, ble_t hb, ble_t hN, ble_f (show ¬ j + 1 ≤ j by omega), grow24 (by omega), ble_t (show 0 + j ≤ j by omega)] at e
    by_cases q1 : N < off + 24 * j + 8
    · rw [blt_t q1] at e
      rw [hB _ q1 (by omega)]
      exact .go e (b15 (by omega)) (fail15 _ _ _ _ _)
    · rw [blt_f q1] at e
      by_cases q2 : N < off + 24 * j + 16
      · rw [blt_t q2] at e
        rw [hB _ q2 (by omega)]
        exact .go e (b15 (by omega)) (fail15 _ _ _ _ _)
      · rw [blt_f q2] at e
        by_cases q3 : N < off + 24 * j + 20
        · rw [blt_t q3] at e
          rw [hB _ q3 (by omega)]
          exact .go e (b15 (by omega)) (fail15 _ _ _ _ _)
        · rw [blt_f q3] at e
          by_cases q4 : N < off + 24 * j + 24
          · rw [blt_t q4] at e
            rw [hB _ q4 (by omega)]
            exact .go e (b15 (by omega)) (fail15 _ _ _ _ _)
          · rw [blt_f q4] at e
            refine .go e (Seen.mk' (.cons (SeenV.refl _) (.cons (SeenV.refl _) (.cons (SeenV.refl _) (.cons (SeenV.refl _) (.cons (SeenV.of_eq ?_) .nil))))) (.cons (SeenO.cells (.cons (SeenV.refl _) (.cons (SeenV.of_eq ?_) (SeenVs.refl _)))) (.cons (SeenO.refl _) (.cons (SeenO.refl _) (.cons (SeenO.refl _) (.cons (SeenO.arr fun i hi q s hs => ?_) .nil)))))) (l15 nl off N f ix tm st kd cl rq fr ct d K hK hok hN r (j + 1) (by omega) (by omega) (by omega))
            · rw [wrap_u64s (by omega)]
            · rw [show off + 24 * j + 24 = off + 24 * (j + 1) by omega]
            · exact rows_at rfl (fun a b _ => by rw [Nat.zero_add]) hi hs
theorem i15 (c : CS) (r : Nat × CS) (h : (r15 c).run = some r) : Loops (fun c => stepC F6 1000 (loopC F6 15 0) 1 h15 ((.normal, h15) :: x15) (p15 c) c) c r.1 r.2 := by
  unfold r15 at h
  cases hb : badP c with
  | true =>
    rw [hb] at h
    simp only [cond_true] at h
    unfold r15f at h
    split at h
    · rename_i n z0 nl l l2 _ x1 x2 x3 x4 x5 x6 x7 x8 x9 x10 y1 y2 y3 y4 y5 y6 y7 y8 y9 y10 sh N f _
      obtain ⟨hn, hb2⟩ := chkT_run h
      have e1 := of_decide_eq_true (hn 0 _ rfl)
      have e2 := (of_decide_eq_true (hn 1 _ rfl)).symm
      have e3 := (of_decide_eq_true (hn 2 _ rfl)).symm
      have e4 := (shBeq_eq (hn 3 _ rfl)).symm
      subst e1; subst e2; subst e3; subst e4
      simp only [T.run, Option.some.injEq] at hb2; subst hb2
      refine .see (c1 := c15b nl N f n 0) (Seen.mk' (SeenVs.refl _) (.cons (SeenO.cells (.cons (SeenV.refl _) (.cons SeenV.bad (SeenVs.refl _)))) (.cons (SeenO.cells ?_) (.cons (SeenO.cells ?_) (.cons (SeenO.refl _) (.skip .nil)))))) (fail15 _ _ _ n 0)
      · exact (.cons SeenV.bad (.cons SeenV.bad (.cons SeenV.bad (.cons SeenV.bad (.cons SeenV.bad (.cons SeenV.bad (.cons SeenV.bad (.cons SeenV.bad (.cons SeenV.bad (.cons SeenV.bad .nil))))))))))
      · exact (.cons SeenV.bad (.cons SeenV.bad (.cons SeenV.bad (.cons SeenV.bad (.cons SeenV.bad (.cons SeenV.bad (.cons SeenV.bad (.cons SeenV.bad (.cons SeenV.bad (.cons SeenV.bad .nil))))))))))
    · cases h
  | false =>
    rw [hb] at h
    simp only [cond_false] at h
    unfold r15o at h
    split at h
    · rename_i n z0 nl l l2 off x1 x2 x3 x4 x5 x6 x7 x8 x9 x10 ix tm st kd cl rq fr ct d z1 _ _ _ _ sh N f _
      obtain ⟨hn, hb2⟩ := chkT_run h
      have e1 := of_decide_eq_true (hn 0 _ rfl)
      have e2 := (of_decide_eq_true (hn 1 _ rfl)).symm
      have e3 := (of_decide_eq_true (hn 2 _ rfl)).symm
      have e4 := hn 3 _ rfl
      have e5 := (shBeq_eq (hn 4 _ rfl)).symm
      have hok := hn 5 _ rfl
      have hoN := le_of (hn 6 _ rfl)
      have hN := le_of (hn 7 _ rfl)
      have h64 := not_gt (hn 8 _ rfl)
      subst e1; subst e2; subst e3; subst e4; subst e5
      clear hn h hb
      refine .see (c1 := c15t nl off N f ix tm st kd cl rq fr ct d n 0) (Seen.mk' (SeenVs.refl _) (.cons (SeenO.refl _) (.cons (SeenO.cells ?_) (.cons (SeenO.cells ?_) (.cons (SeenO.refl _) (.skip .nil)))))) ?_
      · exact (.cons SeenV.bad (.cons SeenV.bad (.cons SeenV.bad (.cons SeenV.bad (.cons SeenV.bad (.cons SeenV.bad (.cons SeenV.bad (.cons SeenV.bad (.cons SeenV.bad (.cons SeenV.bad .nil))))))))))
      · exact (.cons (SeenV.refl _) (.cons (SeenV.refl _) (.cons (SeenV.refl _) (.cons (SeenV.refl _) (.cons (SeenV.refl _) (.cons (SeenV.refl _) (.cons (SeenV.refl _) (.cons (SeenV.refl _) (.cons (SeenV.refl _) (.cons SeenV.nil .nil))))))))))
      have e := s15t_eq nl off N f ix tm st kd cl rq fr ct d n 0
      simp only [T.run] at hb2
      by_cases h0 : n.toNat = 0
      · rw [h0, Nat.beq_refl] at hb2
        simp only [cond_true, Option.some.injEq] at hb2; subst hb2
        rw [decide_eq_false (show ¬ ((0 : Nat) : Int) < n by omega)] at e
        exact .out e (Seen.refl _)
      · have hz : Nat.beq n.toNat 0 = false := by rw [beq_iff, decide_eq_false h0]
        rw [hz] at hb2
        simp only [cond_false] at hb2
        obtain ⟨K, rfl⟩ : ∃ K : Nat, n = (K : Int) := ⟨n.toNat, by omega⟩
        simp only [Int.toNat_natCast] at hb2 h0
        have hr : r = (1, cond (Nat.blt N (off + 24 * K)) (FAIL15 nl N f) ⟨[.ptr 0 0, .ptr 1 0, .ptr 2 0], [some (.cells [.osl nl 3 0 N N 1 true, .int .i64 ((off + 24 * K : Nat) : Int), .bool false] true), some (.cells b10 true), some (.cells [.int .u64 ix, .int .u64 tm, .int .u64 st, .int .i64 kd, .int .u64 cl, .int .u64 rq, .int .u32 fr, .int .u32 ct, .str d, .osl false 4 0 K K 4 true] true), some (.tarr shB N f false), some (.tarr shL K (lookF f off) true)]⟩) := by
          cases hq : Nat.blt N (off + 24 * K) <;> rw [hq] at hb2 <;> simp only [cond_true, cond_false, Option.some.injEq] at hb2 <;> exact hb2.symm
        subst hr; clear hb2
        have hB : ∀ x, N < off + x → x ≤ 24 → Nat.blt N (off + 24 * K) = true := fun x h1 h2 => blt_t (by omega)
        rw [lt1 (show 0 < K by omega), hok, ble_t hoN, ble_t hN] at e
        by_cases q1 : N < off + 8
        · rw [blt_t q1] at e
          rw [hB _ q1 (by omega)]
          exact .go e (b15 (by omega)) (fail15 _ _ _ _ _)
        · rw [blt_f q1] at e
          by_cases q2 : N < off + 16
          · rw [blt_t q2] at e
            rw [hB _ q2 (by omega)]
            exact .go e (b15 (by omega)) (fail15 _ _ _ _ _)
          · rw [blt_f q2] at e
            by_cases q3 : N < off + 20
            · rw [blt_t q3] at e
              rw [hB _ q3 (by omega)]
              exact .go e (b15 (by omega)) (fail15 _ _ _ _ _)
            · rw [blt_f q3] at e
              by_cases q4 : N < off + 24
              · rw [blt_t q4] at e
                rw [hB _ q4 (by omega)]
                exact .go e (b15 (by omega)) (fail15 _ _ _ _ _)
              · rw [blt_f q4] at e
                refine .go e (Seen.mk' (.cons (SeenV.refl _) (.cons (SeenV.refl _) (.cons (SeenV.refl _) (.cons (SeenV.refl _) (.cons (SeenV.of_eq ?_) .nil))))) (.cons (SeenO.cells (.cons (SeenV.refl _) (.cons (SeenV.of_eq ?_) (SeenVs.refl _)))) (.cons (SeenO.refl _) (.cons (SeenO.refl _) (.cons (SeenO.refl _) (.cons (SeenO.arr fun i hi q s hs => ?_) .nil)))))) (l15 nl off N f ix tm st kd cl rq fr ct d K (by omega) hok hN (K - 1) 1 (by omega) (by omega) (by omega))
                · rfl
                · rfl
                · have : i = 0 := by omega
                  subst this
                  match q, hs with
                  | 0, hs => simp at hs; subst hs; rfl
                  | 1, hs => simp at hs; subst hs; rfl
                  | 2, hs => simp at hs; subst hs; rfl
                  | 3, hs => simp at hs; subst hs; rfl
                  | q + 4, hs => simp at hs
    · cases h
theorem q7 : Bm.Good Try.prog F7 := q6.addS (by kernel_rfl) rfl (by decide) (by decide) rfl i15
end Go.Proofs.Ytjbjjikdihghmaa.entry
