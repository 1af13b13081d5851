/- Leases: what the loops and the functions come to. No condition. -/
import Derived.Test.YtckpljmiodgejaaPlA
import Derived.KernelRfl
set_option linter.unusedSimpArgs false
set_option linter.unusedVariables false
set_option maxRecDepth 20000
namespace Go.Proofs.Ytckpljmiodgejaa.placeOne
open Go Go.RowKit Go.Proofs.Ytckpljmiodgejaa.Bm
theorem r39a_inv  {c : CS} {r : Nat × CS} (h : (r39a  c).run = some r) : ∃ nl n f now ch, c = c39a nl n f now ch 0 ∧ (r39aB  nl n f now ch).run = some r := by
  unfold r39a at h
  split at h
  · rename_i nl n z_1 z_2 z_3 sh_4 z_5 f now ch
    obtain ⟨hc, hb⟩ := chkT_run h
    have h0 := hc 0 _ rfl
    have h0 := of_decide_eq_true h0; subst h0
    have h1 := hc 1 _ rfl
    have h1 := of_decide_eq_true h1; subst h1
    have h2 := hc 2 _ rfl
    have h2 := of_decide_eq_true h2; subst h2
    have h3 := hc 3 _ rfl
    have h3 := (shBeq_eq h3).symm; subst h3
    have h4 := hc 4 _ rfl
    have h4 := of_decide_eq_true h4; subst h4
    exact ⟨nl, n, f, now, ch, rfl, hb⟩
  · cases h
theorem f39a_inv  {c : CS} {r : CS} (h : (f39a  c).run = some r) : ∃ nl n f now ch, c = a39a nl n f now ch ∧ (f39aB  nl n f now ch).run = some r := by
  unfold f39a at h
  split at h
  · rename_i nl n z_1 sh_2 z_3 f now ch
    obtain ⟨hc, hb⟩ := chkT_run h
    have h0 := hc 0 _ rfl
    have h0 := of_decide_eq_true h0; subst h0
    have h1 := hc 1 _ rfl
    have h1 := (shBeq_eq h1).symm; subst h1
    have h2 := hc 2 _ rfl
    have h2 := of_decide_eq_true h2; subst h2
    exact ⟨nl, n, f, now, ch, rfl, hb⟩
  · cases h
theorem r39b_inv  {c : CS} {r : Nat × CS} (h : (r39b  c).run = some r) : ∃ nl n f now xc xh xe xu, c = c39b nl n f now xc xh xe xu 0 ∧ (r39bB  nl n f now xc xh xe xu).run = some r := by
  unfold r39b at h
  split at h
  · rename_i nl n z_1 z_2 z_3 sh_4 z_5 f now xc xh xe xu
    obtain ⟨hc, hb⟩ := chkT_run h
    have h0 := hc 0 _ rfl
    have h0 := of_decide_eq_true h0; subst h0
    have h1 := hc 1 _ rfl
    have h1 := of_decide_eq_true h1; subst h1
    have h2 := hc 2 _ rfl
    have h2 := of_decide_eq_true h2; subst h2
    have h3 := hc 3 _ rfl
    have h3 := (shBeq_eq h3).symm; subst h3
    have h4 := hc 4 _ rfl
    have h4 := of_decide_eq_true h4; subst h4
    exact ⟨nl, n, f, now, xc, xh, xe, xu, rfl, hb⟩
  · cases h
theorem f39b_inv  {c : CS} {r : CS} (h : (f39b  c).run = some r) : ∃ nl n f now xc xh xe xu, c = a39b nl n f now xc xh xe xu ∧ (f39bB  nl n f now xc xh xe xu).run = some r := by
  unfold f39b at h
  split at h
  · rename_i nl n z_1 sh_2 z_3 f now xc xh xe xu
    obtain ⟨hc, hb⟩ := chkT_run h
    have h0 := hc 0 _ rfl
    have h0 := of_decide_eq_true h0; subst h0
    have h1 := hc 1 _ rfl
    have h1 := (shBeq_eq h1).symm; subst h1
    have h2 := hc 2 _ rfl
    have h2 := of_decide_eq_true h2; subst h2
    exact ⟨nl, n, f, now, xc, xh, xe, xu, rfl, hb⟩
  · cases h
theorem r39c_inv  {c : CS} {r : Nat × CS} (h : (r39c  c).run = some r) : ∃ nl n f xc xh xe xu, c = c39c nl n f xc xh xe xu 0 ∧ (r39cB  nl n f xc xh xe xu).run = some r := by
  unfold r39c at h
  split at h
  · rename_i nl n z_1 z_2 z_3 sh_4 z_5 f xc xh xe xu
    obtain ⟨hc, hb⟩ := chkT_run h
    have h0 := hc 0 _ rfl
    have h0 := of_decide_eq_true h0; subst h0
    have h1 := hc 1 _ rfl
    have h1 := of_decide_eq_true h1; subst h1
    have h2 := hc 2 _ rfl
    have h2 := of_decide_eq_true h2; subst h2
    have h3 := hc 3 _ rfl
    have h3 := (shBeq_eq h3).symm; subst h3
    have h4 := hc 4 _ rfl
    have h4 := of_decide_eq_true h4; subst h4
    exact ⟨nl, n, f, xc, xh, xe, xu, rfl, hb⟩
  · cases h
theorem f39c_inv  {c : CS} {r : CS} (h : (f39c  c).run = some r) : ∃ nl n f xc xh xe xu, c = a39c nl n f xc xh xe xu ∧ (f39cB  nl n f xc xh xe xu).run = some r := by
  unfold f39c at h
  split at h
  · rename_i nl n z_1 sh_2 z_3 f xc xh xe xu
    obtain ⟨hc, hb⟩ := chkT_run h
    have h0 := hc 0 _ rfl
    have h0 := of_decide_eq_true h0; subst h0
    have h1 := hc 1 _ rfl
    have h1 := (shBeq_eq h1).symm; subst h1
    have h2 := hc 2 _ rfl
    have h2 := of_decide_eq_true h2; subst h2
    exact ⟨nl, n, f, xc, xh, xe, xu, rfl, hb⟩
  · cases h
theorem f21_inv  {c : CS} {r : CS} (h : (f21  c).run = some r) : ∃ nl n f now ch, c = a21 nl n f now ch ∧ (f21B  nl n f now ch).run = some r := by
  unfold f21 at h
  split at h
  · rename_i nl n z_1 now ch sh_2 z_3 f
    obtain ⟨hc, hb⟩ := chkT_run h
    have h0 := hc 0 _ rfl
    have h0 := of_decide_eq_true h0; subst h0
    have h1 := hc 1 _ rfl
    have h1 := (shBeq_eq h1).symm; subst h1
    have h2 := hc 2 _ rfl
    have h2 := of_decide_eq_true h2; subst h2
    exact ⟨nl, n, f, now, ch, rfl, hb⟩
  · cases h
theorem f38_inv  {c : CS} {r : CS} (h : (f38  c).run = some r) : ∃ nl n f now xc xh xe xu, c = a38 nl n f now xc xh xe xu ∧ (f38B  nl n f now xc xh xe xu).run = some r := by
  unfold f38 at h
  split at h
  · rename_i nl n z_1 now xc xh xe xu sh_2 z_3 f
    obtain ⟨hc, hb⟩ := chkT_run h
    have h0 := hc 0 _ rfl
    have h0 := of_decide_eq_true h0; subst h0
    have h1 := hc 1 _ rfl
    have h1 := (shBeq_eq h1).symm; subst h1
    have h2 := hc 2 _ rfl
    have h2 := of_decide_eq_true h2; subst h2
    exact ⟨nl, n, f, now, xc, xh, xe, xu, rfl, hb⟩
  · cases h
theorem r20_inv  {c : CS} {r : Nat × CS} (h : (r20  c).run = some r) : ∃ now xc xh xe xu g nl n f, c = c20 now xc xh xe xu true 0 g false nl n f 0 ∧ (r20B  now xc xh xe xu g nl n f).run = some r := by
  unfold r20 at h
  split at h
  · rename_i now z_1 z_2 z_3 z_4 nl n z_5 z_6 z_7 xc xh xe xu sh_8 z_9 g sh_10 z_11 f
    obtain ⟨hc, hb⟩ := chkT_run h
    have h0 := hc 0 _ rfl
    have h0 := of_decide_eq_true h0; subst h0
    have h1 := hc 1 _ rfl
    have h1 := of_decide_eq_true h1; subst h1
    have h2 := hc 2 _ rfl
    have h2 := of_decide_eq_true h2; subst h2
    have h3 := hc 3 _ rfl
    have h3 := of_decide_eq_true h3; subst h3
    have h4 := hc 4 _ rfl
    have h4 := of_decide_eq_true h4; subst h4
    have h5 := hc 5 _ rfl
    have h5 := of_decide_eq_true h5; subst h5
    have h6 := hc 6 _ rfl
    have h6 := of_decide_eq_true h6; subst h6
    have h7 := hc 7 _ rfl
    have h7 := (shBeq_eq h7).symm; subst h7
    have h8 := hc 8 _ rfl
    have h8 := of_decide_eq_true h8; subst h8
    have h9 := hc 9 _ rfl
    have h9 := (shBeq_eq h9).symm; subst h9
    have h10 := hc 10 _ rfl
    have h10 := of_decide_eq_true h10; subst h10
    exact ⟨now, xc, xh, xe, xu, g, nl, n, f, rfl, hb⟩
  · cases h
theorem f20_inv  {c : CS} {r : CS} (h : (f20  c).run = some r) : ∃ nl n f now xc xh xe xu, c = a20 nl n f now xc xh xe xu ∧ (f20B  nl n f now xc xh xe xu).run = some r := by
  unfold f20 at h
  split at h
  · rename_i nl n z_1 now xc xh xe xu sh_2 z_3 f
    obtain ⟨hc, hb⟩ := chkT_run h
    have h0 := hc 0 _ rfl
    have h0 := of_decide_eq_true h0; subst h0
    have h1 := hc 1 _ rfl
    have h1 := (shBeq_eq h1).symm; subst h1
    have h2 := hc 2 _ rfl
    have h2 := of_decide_eq_true h2; subst h2
    exact ⟨nl, n, f, now, xc, xh, xe, xu, rfl, hb⟩
  · cases h
theorem r42m_inv  {c : CS} {r : Nat × CS} (h : (r42m  c).run = some r) : ∃ gl k g now a xc xh xe xu m q nl n f j, c = c42 gl k g now a xc xh xe xu m q nl n f j 0 ∧ (r42mB  gl k g now a xc xh xe xu m q nl n f j).run = some r := by
  unfold r42m at h
  split at h
  · rename_i gl k z_1 now z_2 m z_3 nl n z_4 z_5 j z_6 z_7 z_8 z_9 z_10 sh_11 z_12 g a xc xh xe xu sh_13 z_14 q sh_15 z_16 f
    obtain ⟨hc, hb⟩ := chkT_run h
    have h0 := hc 0 _ rfl
    have h0 := of_decide_eq_true h0; subst h0
    have h1 := hc 1 _ rfl
    have h1 := of_decide_eq_true h1; subst h1
    have h2 := hc 2 _ rfl
    have h2 := of_decide_eq_true h2; subst h2
    have h3 := hc 3 _ rfl
    have h3 := of_decide_eq_true h3; subst h3
    have h4 := hc 4 _ rfl
    have h4 := of_decide_eq_true h4; subst h4
    have h5 := hc 5 _ rfl
    have h5 := of_decide_eq_true h5; subst h5
    have h6 := hc 6 _ rfl
    have h6 := of_decide_eq_true h6; subst h6
    have h7 := hc 7 _ rfl
    have h7 := of_decide_eq_true h7; subst h7
    have h8 := hc 8 _ rfl
    have h8 := of_decide_eq_true h8; subst h8
    have h9 := hc 9 _ rfl
    have h9 := of_decide_eq_true h9; subst h9
    have h10 := hc 10 _ rfl
    have h10 := (shBeq_eq h10).symm; subst h10
    have h11 := hc 11 _ rfl
    have h11 := of_decide_eq_true h11; subst h11
    have h12 := hc 12 _ rfl
    have h12 := (shBeq_eq h12).symm; subst h12
    have h13 := hc 13 _ rfl
    have h13 := of_decide_eq_true h13; subst h13
    have h14 := hc 14 _ rfl
    have h14 := (shBeq_eq h14).symm; subst h14
    have h15 := hc 15 _ rfl
    have h15 := of_decide_eq_true h15; subst h15
    exact ⟨gl, k, g, now, a, xc, xh, xe, xu, m, q, nl, n, f, j, rfl, hb⟩
  · cases h
theorem r42n_inv  {c : CS} {r : Nat × CS} (h : (r42n  c).run = some r) : ∃ g g2 now a xc xh xe xu m q nl n f j, c = c42n g g2 now a xc xh xe xu m q nl n f j ∧ (r42nB  g g2 now a xc xh xe xu m q nl n f j).run = some r := by
  unfold r42n at h
  split at h
  · rename_i now z_1 m z_2 nl n z_3 z_4 j z_5 z_6 sh_7 z_8 g a xc xh xe xu sh_9 z_10 q sh_11 z_12 f sh_13 z_14 g2
    obtain ⟨hc, hb⟩ := chkT_run h
    have h0 := hc 0 _ rfl
    have h0 := of_decide_eq_true h0; subst h0
    have h1 := hc 1 _ rfl
    have h1 := of_decide_eq_true h1; subst h1
    have h2 := hc 2 _ rfl
    have h2 := of_decide_eq_true h2; subst h2
    have h3 := hc 3 _ rfl
    have h3 := of_decide_eq_true h3; subst h3
    have h4 := hc 4 _ rfl
    have h4 := of_decide_eq_true h4; subst h4
    have h5 := hc 5 _ rfl
    have h5 := of_decide_eq_true h5; subst h5
    have h6 := hc 6 _ rfl
    have h6 := (shBeq_eq h6).symm; subst h6
    have h7 := hc 7 _ rfl
    have h7 := of_decide_eq_true h7; subst h7
    have h8 := hc 8 _ rfl
    have h8 := (shBeq_eq h8).symm; subst h8
    have h9 := hc 9 _ rfl
    have h9 := of_decide_eq_true h9; subst h9
    have h10 := hc 10 _ rfl
    have h10 := (shBeq_eq h10).symm; subst h10
    have h11 := hc 11 _ rfl
    have h11 := of_decide_eq_true h11; subst h11
    have h12 := hc 12 _ rfl
    have h12 := (shBeq_eq h12).symm; subst h12
    have h13 := hc 13 _ rfl
    have h13 := of_decide_eq_true h13; subst h13
    exact ⟨g, g2, now, a, xc, xh, xe, xu, m, q, nl, n, f, j, rfl, hb⟩
  · cases h
theorem r4_inv  {c : CS} {r : Nat × CS} (h : (r4  c).run = some r) : ∃ q g nl n f, c = c4 true 0 q true 0 g 0 nl n f 0 ∧ (r4B  q g nl n f).run = some r := by
  unfold r4 at h
  split at h
  · rename_i z_1 z_2 z_3 z_4 z_5 z_6 z_7 nl n z_8 z_9 z_10 sh_11 z_12 q sh_13 z_14 g sh_15 z_16 f
    obtain ⟨hc, hb⟩ := chkT_run h
    have h0 := hc 0 _ rfl
    have h0 := of_decide_eq_true h0; subst h0
    have h1 := hc 1 _ rfl
    have h1 := of_decide_eq_true h1; subst h1
    have h2 := hc 2 _ rfl
    have h2 := of_decide_eq_true h2; subst h2
    have h3 := hc 3 _ rfl
    have h3 := of_decide_eq_true h3; subst h3
    have h4 := hc 4 _ rfl
    have h4 := of_decide_eq_true h4; subst h4
    have h5 := hc 5 _ rfl
    have h5 := of_decide_eq_true h5; subst h5
    have h6 := hc 6 _ rfl
    have h6 := of_decide_eq_true h6; subst h6
    have h7 := hc 7 _ rfl
    have h7 := of_decide_eq_true h7; subst h7
    have h8 := hc 8 _ rfl
    have h8 := of_decide_eq_true h8; subst h8
    have h9 := hc 9 _ rfl
    have h9 := of_decide_eq_true h9; subst h9
    have h10 := hc 10 _ rfl
    have h10 := (shBeq_eq h10).symm; subst h10
    have h11 := hc 11 _ rfl
    have h11 := of_decide_eq_true h11; subst h11
    have h12 := hc 12 _ rfl
    have h12 := (shBeq_eq h12).symm; subst h12
    have h13 := hc 13 _ rfl
    have h13 := of_decide_eq_true h13; subst h13
    have h14 := hc 14 _ rfl
    have h14 := (shBeq_eq h14).symm; subst h14
    have h15 := hc 15 _ rfl
    have h15 := of_decide_eq_true h15; subst h15
    exact ⟨q, g, nl, n, f, rfl, hb⟩
  · cases h
theorem ble_t {n m : Nat} (h : n ≤ m) : Nat.ble n m = true := Nat.ble_eq_true_of_le h
theorem ble_f {n m : Nat} (h : ¬ n ≤ m) : Nat.ble n m = false := by rw [ble_iff, decide_eq_false h]
theorem le_of {n m : Nat} (h : Nat.ble n m = true) : n ≤ m := Nat.le_of_ble_eq_true h
theorem growt {n : Nat} (h : n ≤ 2000000) : growB 32 n = true := by
  unfold growB
  rw [ble_t (show n ≤ 281474976710656 by omega), ble_t (show n * 32 ≤ 17179869184 by omega)]; rfl
theorem lt1 {i n : Nat} (h : i < n) : decide ((i : Int) < (n : Int)) = true := decide_eq_true (by omega)
theorem lt0 (n : Nat) : decide ((n : Int) < (n : Int)) = false := decide_eq_false (by omega)
theorem blt_t {n m : Nat} (h : n < m) : Nat.blt n m = true := by rw [blt_iff]; exact decide_eq_true h
theorem blt_f {n m : Nat} (h : ¬ n < m) : Nat.blt n m = false := by rw [blt_iff]; exact decide_eq_false h

/-! ### Lists of leases -/
theorem rdL_len (f : Nat → Nat → AV) (n : Nat) : (rdL f n).length = n := by simp [rdL]
theorem rdL_at {f : Nat → Nat → AV} {n i : Nat} (h : i < n) : (rdL f n).getD i nilLs = lsAt f i := by
  simp [rdL, List.getD_eq_getElem?_getD, h]
theorem rdL_succ (f : Nat → Nat → AV) (n : Nat) : rdL f (n + 1) = rdL f n ++ [lsAt f n] := by simp [rdL, List.range_succ]
theorem lsAt_fin (L : List Ls) (i : Nat) : lsAt (finL L) i = L.getD i nilLs := by
  cases h : L.getD i nilLs
  simp only [lsAt, finL, h, Ls.cell, AV.toI]
theorem rdL_fin (L : List Ls) : rdL (finL L) L.length = L := by
  refine List.ext_getElem (rdL_len _ _) fun i h1 h2 => ?_
  simp [rdL, lsAt_fin, List.getD_eq_getElem?_getD, h2]
/-- Is an array what a list tells? -/
def IsR (f : Nat → Nat → AV) (L : List Ls) : Prop := ∀ i, i < L.length → lsAt f i = L.getD i nilLs
theorem isR_fin (L : List Ls) : IsR (finL L) L := fun i _ => lsAt_fin L i
theorem isR_zero {f : Nat → Nat → AV} {L : List Ls} (h : IsR f L) : IsR (fun p q => f (0 + p) q) L := fun i hi => by
  show lsAt (fun p q => f (0 + p) q) i = _
  rw [← h i hi]
  simp only [lsAt, Nat.zero_add]
theorem isR_join {f g : Nat → Nat → AV} {L M : List Ls} {n : Nat} (hn : n = L.length) (hf : IsR f L) (hg : IsR g M) : IsR (fjoin f n g) (L ++ M) := by
  subst hn
  intro i hi
  by_cases h : i < L.length
  · have e : lsAt (fjoin f L.length g) i = lsAt f i := by
      simp only [lsAt, fjoin, blt_t h, cond_true]
    rw [e, hf i h, List.getD_eq_getElem?_getD, List.getD_eq_getElem?_getD, List.getElem?_append_left h]
  · rw [List.length_append] at hi
    have e : lsAt (fjoin f L.length g) i = lsAt g (i - L.length) := by
      simp only [lsAt, fjoin, blt_f h, cond_false]
    rw [e, hg (i - L.length) (by omega), List.getD_eq_getElem?_getD, List.getD_eq_getElem?_getD, List.getElem?_append_right (by omega)]
theorem isR_one (x : Ls) : IsR (rowsOf 4 [.int .u64 x.c, .int .i64 x.h, .int .u64 x.e, .int .u64 x.u] 1) [x] := fun i hi => by
  simp at hi; subst hi; rfl
theorem isR_two (x y : Ls) : IsR (rowsOf 4 [.int .u64 x.c, .int .i64 x.h, .int .u64 x.e, .int .u64 x.u, .int .u64 y.c, .int .i64 y.h, .int .u64 y.e, .int .u64 y.u] 2) [x, y] := fun i hi => by
  have : i = 0 ∨ i = 1 := by simp at hi; omega
  rcases this with rfl | rfl <;> rfl
theorem SeenO.ls {f : Nat → Nat → AV} {n : Nat} {L : List Ls} {b : Bool} (hn : n = L.length) (h : IsR f L) : SeenO (.tarr shL n f b) (.tarr shL L.length (finL L) b) := by
  subst hn
  refine SeenO.arr fun i hi j s hs => ?_
  have e := h i hi
  have hc : (f i 0).toI = (L.getD i nilLs).c := congrArg Ls.c e
  have hh : (f i 1).toI = (L.getD i nilLs).h := congrArg Ls.h e
  have he : (f i 2).toI = (L.getD i nilLs).e := congrArg Ls.e e
  have hu : (f i 3).toI = (L.getD i nilLs).u := congrArg Ls.u e
  match j, hs with
  | 0, hs => simp at hs; subst hs; show AV.int .u64 (f i 0).toI = _; rw [hc]; rfl
  | 1, hs => simp at hs; subst hs; show AV.int .i64 (f i 1).toI = _; rw [hh]; rfl
  | 2, hs => simp at hs; subst hs; show AV.int .u64 (f i 2).toI = _; rw [he]; rfl
  | 3, hs => simp at hs; subst hs; show AV.int .u64 (f i 3).toI = _; rw [hu]; rfl
  | j + 4, hs => simp at hs
theorem firstL_spec (q : Ls → Bool) : ∀ l : List Ls, firstL q l ≤ l.length ∧ (∀ j, j < firstL q l → q (l.getD j nilLs) = false) ∧ (firstL q l < l.length → q (l.getD (firstL q l) nilLs) = true)
  | [] => ⟨Nat.le_refl _, fun j hj => by simp [firstL] at hj, fun h => by simp [firstL] at h⟩
  | x :: l => by
    obtain ⟨h1, h2, h3⟩ := firstL_spec q l
    cases hq : q x with
    | true => simp only [firstL, hq, cond_true]; exact ⟨Nat.zero_le _, fun j hj => absurd hj (Nat.not_lt_zero _), fun _ => hq⟩
    | false =>
      simp only [firstL, hq, cond_false, List.length_cons]
      refine ⟨by omega, fun j hj => ?_, fun h => ?_⟩
      · cases j with
        | zero => exact hq
        | succ j => simpa using h2 j (by omega)
      · simpa using h3 (by omega)
theorem idx_spec (p : Ls → Bool) (f : Nat → Nat → AV) (n : Nat) : idx p f n ≤ n ∧ (∀ j, j < idx p f n → p (lsAt f j) = false) ∧ (idx p f n < n → p (lsAt f (idx p f n)) = true) := by
  rw [idx_eq]
  obtain ⟨h1, h2, h3⟩ := firstL_spec p (rdL f n)
  rw [rdL_len] at h1 h3
  refine ⟨h1, fun j hj => ?_, fun h => ?_⟩
  · rw [← rdL_at (n := n) (by omega)]; exact h2 j hj
  · rw [← rdL_at (n := n) h]; exact h3 h
theorem idx_first {p : Ls → Bool} {f : Nat → Nat → AV} {n i : Nat} (hi : i < n) (h : ∀ j, j < i → p (lsAt f j) = false) (hp : p (lsAt f i) = true) : idx p f n = i := by
  obtain ⟨h1, h2, h3⟩ := idx_spec p f n
  rcases Nat.lt_trichotomy (idx p f n) i with hlt | he | hgt
  · have := h3 (by omega)
    rw [h _ hlt] at this; cases this
  · exact he
  · have := h2 i hgt
    rw [hp] at this; cases this
theorem idx_none {p : Ls → Bool} {f : Nat → Nat → AV} {n : Nat} (h : ∀ j, j < n → p (lsAt f j) = false) : idx p f n = n := by
  obtain ⟨h1, h2, h3⟩ := idx_spec p f n
  by_cases hl : idx p f n < n
  · have := h3 hl
    rw [h _ hl] at this; cases this
  · omega
/-- A loop that looks for the first row of which it is told yes. -/
theorem Loops.first {step : CS → Option (Nat × CS)} {C : Nat → CS} {n : Nat} {p : Ls → Bool} {f : Nat → Nat → AV} {r1 : CS} {r2 : Nat → CS}
    (hs : ∀ i, i < n → step (C i) = cond (p (lsAt f i)) (some (2, r2 i)) (some (0, C (i + 1)))) (he : step (C n) = some (1, r1)) :
    Loops step (C 0) (cond (Nat.blt (idx p f n) n) 2 1) (cond (Nat.blt (idx p f n) n) (r2 (idx p f n)) r1) := by
  refine Loops.inv (C := C) (fun i => i ≤ n ∧ ∀ j, j < i → p (lsAt f j) = false) (fun i => n - i) (fun _ => (cond (Nat.blt (idx p f n) n) 2 1, cond (Nat.blt (idx p f n) n) (r2 (idx p f n)) r1)) (fun i hi => ?_) 0 ⟨Nat.zero_le _, fun j hj => absurd hj (Nat.not_lt_zero _)⟩
  obtain ⟨h1, h2⟩ := hi
  by_cases h : i = n
  · subst h
    rw [idx_none h2, blt_f (Nat.lt_irrefl _)]
    exact .inr ⟨_, 0, he, rfl, Seen.refl _⟩
  · have hst := hs i (by omega)
    cases hp : p (lsAt f i) with
    | true =>
      rw [hp] at hst
      rw [idx_first (by omega) h2 hp, blt_t (show i < n by omega)]
      exact .inr ⟨_, 1, hst, rfl, Seen.refl _⟩
    | false =>
      rw [hp] at hst
      refine .inl ⟨_, i + 1, hst, Seen.refl _, ⟨by omega, fun j hj => ?_⟩, by omega, rfl⟩
      by_cases hj' : j = i
      · subst hj'; exact hp
      · exact h2 j (by omega)
/-! ### The loops and the functions -/
def pi39 (c : CS) : Plan := match c.ts with
  | [_, .func (.func 40) _ _, _, _] => s39a_p
  | [_, .func (.func 48) _ _, _, _] => s39b_p
  | _ => s39c_p
theorem ask_ret {A : Type} {b : Bool} {k1 k2 : Nat} {x y : A} {r : Nat × A} (h : (T.ask b (.ret (k1, x)) (.ret (k2, y))).run = some r) : r = (cond b k1 k2, cond b x y) := by
  cases b <;> simpa [T.run] using h.symm
theorem i39 (c : CS) (r : Nat × CS) (h : (r39 c).run = some r) : Loops (fun c => stepC E0 300 (loopC E0 39 0) 0 h39 ((.normal, h39) :: x39) (pi39 c) c) c r.1 r.2 := by
  unfold r39 at h
  split at h
  · obtain ⟨nl, n, f, now, ch, rfl, hb⟩ := r39a_inv h
    obtain ⟨hn, hb2⟩ := chkT_run hb
    have hn := le_of (hn 0 _ rfl)
    have hr := ask_ret hb2; subst hr
    refine Loops.first (C := fun i => c39a nl n f now ch i) (p := holdsQ now ch) (f := f) (r2 := fun i => ⟨[.int .i64 (i : Nat)], []⟩) (fun i hi => ?_) ?_
    · have e := s39a_eq nl n f now ch i
      rw [lt1 hi, ix_, blt_t hi, wrap_i64s (by omega)] at e
      refine Eq.trans e ?_
      rw [show holdsQ now ch (lsAt f i) = (((f i 0).toI == ch) && decide ((f i 3).toI > now)) from rfl]
      cases ((f i 0).toI == ch) <;> cases (decide ((f i 3).toI > now)) <;> rfl
    · have e := s39a_eq nl n f now ch n
      rw [lt0] at e
      exact e
  · obtain ⟨nl, n, f, now, xc, xh, xe, xu, rfl, hb⟩ := r39b_inv h
    obtain ⟨hn, hb2⟩ := chkT_run hb
    have hn := le_of (hn 0 _ rfl)
    have hr := ask_ret hb2; subst hr
    refine Loops.first (C := fun i => c39b nl n f now xc xh xe xu i) (p := busyQ now ⟨xc, xh, xe, xu⟩) (f := f) (r2 := fun i => ⟨[.int .i64 (i : Nat)], []⟩) (fun i hi => ?_) ?_
    · have e := s39b_eq nl n f now xc xh xe xu i
      rw [lt1 hi, ix_, blt_t hi, wrap_i64s (by omega)] at e
      refine Eq.trans e ?_
      rw [show busyQ now ⟨xc, xh, xe, xu⟩ (lsAt f i) = (((f i 0).toI == xc) && decide ((f i 3).toI > now) && ((f i 1).toI != xh)) from rfl]
      cases ((f i 0).toI == xc) <;> cases (decide ((f i 3).toI > now)) <;> cases ((f i 1).toI != xh) <;> rfl
    · have e := s39b_eq nl n f now xc xh xe xu n
      rw [lt0] at e
      exact e
  · obtain ⟨nl, n, f, xc, xh, xe, xu, rfl, hb⟩ := r39c_inv h
    obtain ⟨hn, hb2⟩ := chkT_run hb
    have hn := le_of (hn 0 _ rfl)
    have hr := ask_ret hb2; subst hr
    refine Loops.first (C := fun i => c39c nl n f xc xh xe xu i) (p := newerQ ⟨xc, xh, xe, xu⟩) (f := f) (r2 := fun i => ⟨[.int .i64 (i : Nat)], []⟩) (fun i hi => ?_) ?_
    · have e := s39c_eq nl n f xc xh xe xu i
      rw [lt1 hi, ix_, blt_t hi, wrap_i64s (by omega)] at e
      refine Eq.trans e ?_
      rw [show newerQ ⟨xc, xh, xe, xu⟩ (lsAt f i) = (((f i 0).toI == xc) && (decide ((f i 2).toI > xe) || decide ((f i 3).toI > xu))) from rfl]
      cases ((f i 0).toI == xc) <;> cases (decide ((f i 2).toI > xe)) <;> cases (decide ((f i 3).toI > xu)) <;> rfl
    · have e := s39c_eq nl n f xc xh xe xu n
      rw [lt0] at e
      exact e
  · cases h
theorem g0 : Bm.Good Try.prog E0 := good0 (by kernel_rfl) (by kernel_rfl) (by kernel_rfl)
theorem gA : Bm.Good Try.prog EA := g0.addS (by kernel_rfl) rfl (by decide) (by decide) rfl i39
theorem j39 (c c' : CS) (h : (f39 c).run = some c') : ∃ m pr ros π, callC EA m 39 0 pr ros π c = some c' := by
  unfold f39 at h
  split at h
  · obtain ⟨nl, n, f, now, ch, rfl, hb⟩ := f39a_inv h
    obtain ⟨hn, hb2⟩ := chkT_run hb
    have e := k39a_eq nl n f now ch
    rw [hn 0 _ rfl] at e
    exact ⟨1000, .keep, [], k39a_p, e.trans hb2⟩
  · obtain ⟨nl, n, f, now, xc, xh, xe, xu, rfl, hb⟩ := f39b_inv h
    obtain ⟨hn, hb2⟩ := chkT_run hb
    have e := k39b_eq nl n f now xc xh xe xu
    rw [hn 0 _ rfl] at e
    exact ⟨1000, .keep, [], k39b_p, e.trans hb2⟩
  · obtain ⟨nl, n, f, xc, xh, xe, xu, rfl, hb⟩ := f39c_inv h
    obtain ⟨hn, hb2⟩ := chkT_run hb
    have e := k39c_eq nl n f xc xh xe xu
    rw [hn 0 _ rfl] at e
    exact ⟨1000, .keep, [], k39c_p, e.trans hb2⟩
  · cases h
theorem gB : Bm.Good Try.prog EB := gA.addR gA (by kernel_rfl) j39
theorem j21 (c c' : CS) (h : (f21 c).run = some c') : ∃ m pr ros π, callC EB m 21 0 pr ros π c = some c' := by
  obtain ⟨nl, n, f, now, ch, rfl, hb⟩ := f21_inv h
  obtain ⟨hn, hb2⟩ := chkT_run hb
  have e := k21_eq nl n f now ch
  rw [hn 0 _ rfl] at e
  refine ⟨1000, .keep, [], k21_p, e.trans ?_⟩
  rw [← hb2]
  by_cases hk : idx (holdsQ now ch) f n < n
  · rw [ix_, lt1 hk, blt_t hk]; rfl
  · rw [blt_f hk]; rfl
theorem j38 (c c' : CS) (h : (f38 c).run = some c') : ∃ m pr ros π, callC EB m 38 0 pr ros π c = some c' := by
  obtain ⟨nl, n, f, now, xc, xh, xe, xu, rfl, hb⟩ := f38_inv h
  obtain ⟨hn, hb2⟩ := chkT_run hb
  have e := k38_eq nl n f now xc xh xe xu
  rw [hn 0 _ rfl] at e
  refine ⟨1000, .keep, [], k38_p, e.trans ?_⟩
  rw [← hb2]
  simp only [argV_eq, argB, T.run]
  cases decide (xh ≥ 0) <;> cases decide (xh < 16) <;> cases (xc == 0) <;> cases (xe == 0) <;> cases (decide (xu ≤ now)) <;> rfl
theorem gC : Bm.Good Try.prog EC := (gB.addR gB (by kernel_rfl) j38).addR gB (by kernel_rfl) j21
/-! ### Grant -/
theorem gLoop_nil (now : Int) (x : Ls) : ∀ (l : List Ls) (r : List Ls × Bool), (r.1 = [] → r.2 = false) → ((l.foldl (gStep now x) r).1 = [] → (l.foldl (gStep now x) r).2 = false)
  | [], r, h => h
  | y :: l, r, h => gLoop_nil now x l _ (by
    unfold gStep
    cases (y.c == x.c || decide (y.u ≤ now)) with
    | true => exact h
    | false =>
      simp only [cond_false]
      cases (!r.2 && decide (y.c > x.c)) with
      | true => simp
      | false => simp)
def st20 (now xc xh xe xu : Int) (nl : Bool) (n : Nat) (f : Nat → Nat → AV) (r : List Ls × Bool) (i : Nat) : CS := match r.1 with
  | [] => c20t now xc xh xe xu nl n f i
  | _ :: _ => c20 now xc xh xe xu false r.1.length (finL r.1) r.2 nl n f i
def pi20 (c : CS) : Plan := match c.ts with
  | [_, _, .nilSlice, _, _, _, _] => s20t_p
  | _ => s20_p
theorem st20_nn {now xc xh xe xu : Int} {nl : Bool} {n : Nat} {f : Nat → Nat → AV} {L : List Ls} {p : Bool} {i : Nat} (h : L ≠ []) : st20 now xc xh xe xu nl n f (L, p) i = c20 now xc xh xe xu false L.length (finL L) p nl n f i := by
  cases L with
  | nil => exact absurd rfl h
  | cons y l => rfl
theorem seen20 {now xc xh xe xu : Int} {nl : Bool} {n : Nat} {f : Nat → Nat → AV} {L : List Ls} {p : Bool} {i m : Nat} {g : Nat → Nat → AV} {w : Int} (hL : L ≠ []) (hm : m = L.length) (hg : IsR g L) (hw : w = (i : Nat)) :
    Seen ⟨[.int .u64 now, .ptr 0 0, .osl false 1 0 m m 4 true, .bool p, .osl nl 2 0 n n 4 true, .int .i64 (n : Nat), .int .i64 w], [some (.cells [.int .u64 xc, .int .i64 xh, .int .u64 xe, .int .u64 xu] true), some (.tarr shL m g true), some (.tarr shL n f false)]⟩ (st20 now xc xh xe xu nl n f (L, p) i) := by
  rw [st20_nn hL]
  subst hm; subst hw
  exact Seen.mk' (SeenVs.refl _) (SeenOs.same (.cons (SeenO.ls rfl hg) (SeenOs.refl _)))
theorem seen20n {now xc xh xe xu : Int} {nl : Bool} {n : Nat} {f g : Nat → Nat → AV} {i : Nat} {w : Int} (hw : w = (i : Nat)) :
    Seen ⟨[.int .u64 now, .ptr 0 0, .osl true 1 0 0 0 4 true, .bool false, .osl nl 2 0 n n 4 true, .int .i64 (n : Nat), .int .i64 w], [some (.cells [.int .u64 xc, .int .i64 xh, .int .u64 xe, .int .u64 xu] true), some (.tarr shL 0 g true), some (.tarr shL n f false)]⟩ (st20 now xc xh xe xu nl n f ([], false) i) := by
  subst hw
  exact Seen.mk' (.cons (SeenV.refl _) (.cons (SeenV.refl _) (.cons SeenV.nil (SeenVs.refl _)))) (SeenOs.same (.skip (SeenOs.refl _)))
theorem i20_step (now xc xh xe xu : Int) (nl : Bool) (n : Nat) (f : Nat → Nat → AV) (r : List Ls × Bool) (i : Nat) (hn : n ≤ 1000) (hl : r.1.length ≤ 2000) (hi : i < n) (h0 : r.1 = [] → r.2 = false) :
    ∃ c1, stepC EC 300 (loopC EC 20 0) 0 h20 ((.normal, h20) :: x20) (pi20 (st20 now xc xh xe xu nl n f r i)) (st20 now xc xh xe xu nl n f r i) = some (0, c1) ∧ Seen c1 (st20 now xc xh xe xu nl n f (gStep now ⟨xc, xh, xe, xu⟩ r (lsAt f i)) (i + 1)) := by
  obtain ⟨L, p⟩ := r
  cases L with
  | nil =>
    have hp : p = false := h0 rfl
    subst hp
    have e := s20t_eq now xc xh xe xu nl n f i
    rw [lt1 hi, ix_, blt_t hi] at e
    have hg : gStep now ⟨xc, xh, xe, xu⟩ ([], false) (lsAt f i) = cond ((f i 0).toI == xc || decide ((f i 3).toI ≤ now)) ([], false) (cond (decide ((f i 0).toI > xc)) ([⟨xc, xh, xe, xu⟩, lsAt f i], true) ([lsAt f i], false)) := rfl
    rw [hg]; clear hg
    cases hb1 : ((f i 0).toI == xc) with
    | true => rw [hb1] at e; exact ⟨_, e, seen20n (wrap_i64s (by omega))⟩
    | false =>
      rw [hb1] at e
      cases hb2 : decide ((f i 3).toI ≤ now) with
      | true =>
        have hb2' : decide ((f i 3).toI ≤ now) = true := hb2
        rw [hb2'] at e; exact ⟨_, e, seen20n (wrap_i64s (by omega))⟩
      | false =>
        have hb2' : decide ((f i 3).toI ≤ now) = false := hb2
        rw [hb2'] at e
        cases hb3 : decide ((f i 0).toI > xc) with
        | true => rw [hb3] at e; exact ⟨_, e, seen20 (by simp) rfl (isR_two _ _) (wrap_i64s (by omega))⟩
        | false => rw [hb3] at e; exact ⟨_, e, seen20 (by simp) rfl (isR_one _) (wrap_i64s (by omega))⟩
  | cons z zs =>
    have hz : z :: zs ≠ [] := by simp
    rw [st20_nn hz]
    have hl : (z :: zs).length ≤ 2000 := hl
    generalize z :: zs = L at hz hl ⊢
    clear h0
    have e := s20_eq now xc xh xe xu L.length (finL L) p nl n f i
    rw [lt1 hi, ix_, blt_t hi] at e
    have hg : gStep now ⟨xc, xh, xe, xu⟩ (L, p) (lsAt f i) = cond ((f i 0).toI == xc || decide ((f i 3).toI ≤ now)) (L, p) (cond (!p && decide ((f i 0).toI > xc)) (L ++ [⟨xc, xh, xe, xu⟩] ++ [lsAt f i], true) (L ++ [lsAt f i], p)) := rfl
    rw [hg]; clear hg
    have nr1 : Nat.ble (L.length + 1) L.length = false := ble_f (by omega)
    have nr2 : Nat.ble (L.length + 1 + 1) (L.length + 1) = false := ble_f (by omega)
    have gr1 : growB 32 (L.length + 1) = true := growt (by omega)
    have gr2 : growB 32 (L.length + 1 + 1) = true := growt (by omega)
    have ok1 : Nat.ble (0 + L.length) L.length = true := ble_t (by omega)
    have ok2 : Nat.ble (0 + (L.length + 1)) (L.length + 1) = true := ble_t (by omega)
    rw [nr1, nr2, gr1, gr2, ok1, ok2] at e
    cases hb1 : ((f i 0).toI == xc) with
    | true => rw [hb1] at e; exact ⟨_, e, seen20 hz rfl (isR_fin _) (wrap_i64s (by omega))⟩
    | false =>
      rw [hb1] at e
      cases hb2 : decide ((f i 3).toI ≤ now) with
      | true =>
        have hb2' : decide ((f i 3).toI ≤ now) = true := hb2
        rw [hb2'] at e; exact ⟨_, e, seen20 hz rfl (isR_fin _) (wrap_i64s (by omega))⟩
      | false =>
        have hb2' : decide ((f i 3).toI ≤ now) = false := hb2
        rw [hb2'] at e
        have one : IsR (fjoin (fun p_ q_ => finL L (0 + p_) q_) L.length (rowsOf 4 [.int .u64 (lsAt f i).c, .int .i64 (lsAt f i).h, .int .u64 (lsAt f i).e, .int .u64 (lsAt f i).u] 1)) (L ++ [lsAt f i]) := isR_join rfl (isR_zero (isR_fin L)) (isR_one _)
        cases p with
        | true => exact ⟨_, e, seen20 (by simp) (by simp) one (wrap_i64s (by omega))⟩
        | false =>
          cases hb3 : decide ((f i 0).toI > xc) with
          | true =>
            rw [hb3] at e
            refine ⟨_, e, seen20 (by simp) (by simp) (isR_join (by simp) (isR_zero (isR_join rfl (isR_zero (isR_fin L)) (isR_one ⟨xc, xh, xe, xu⟩))) (isR_one (lsAt f i))) (wrap_i64s (by omega))⟩
          | false => rw [hb3] at e; exact ⟨_, e, seen20 (by simp) (by simp) one (wrap_i64s (by omega))⟩
def gi (now xc xh xe xu : Int) (f : Nat → Nat → AV) (i : Nat) : List Ls × Bool := gLoop now ⟨xc, xh, xe, xu⟩ (rdL f i)
theorem gi_succ (now xc xh xe xu : Int) (f : Nat → Nat → AV) (i : Nat) : gi now xc xh xe xu f (i + 1) = gStep now ⟨xc, xh, xe, xu⟩ (gi now xc xh xe xu f i) (lsAt f i) := by
  simp only [gi, gLoop, rdL_succ, List.foldl_append, List.foldl_cons, List.foldl_nil]
theorem gStep_len (now : Int) (x y : Ls) (r : List Ls × Bool) : (gStep now x r y).1.length ≤ r.1.length + 1 + cond (gStep now x r y).2 1 0 - cond r.2 1 0 ∧ (r.2 = true → (gStep now x r y).2 = true) := by
  unfold gStep
  obtain ⟨L, p⟩ := r
  cases (y.c == x.c || decide (y.u ≤ now)) <;> cases p <;> cases (decide (y.c > x.c)) <;> simp <;> omega
theorem gi_len (now xc xh xe xu : Int) (f : Nat → Nat → AV) : ∀ i, (gi now xc xh xe xu f i).1.length ≤ i + cond (gi now xc xh xe xu f i).2 1 0
  | 0 => Nat.le_refl _
  | i + 1 => by
    rw [gi_succ]
    have h1 := gi_len now xc xh xe xu f i
    obtain ⟨h2, h3⟩ := gStep_len now ⟨xc, xh, xe, xu⟩ (lsAt f i) (gi now xc xh xe xu f i)
    cases hp : (gi now xc xh xe xu f i).2 with
    | true =>
      have h4 := h3 hp
      rw [hp, h4] at h2; rw [hp] at h1; rw [h4]
      simp only [cond_true] at h1 h2 ⊢
      omega
    | false =>
      rw [hp] at h1 h2
      simp only [cond_false] at h1 h2
      omega
theorem i20 (c : CS) (r : Nat × CS) (h : (r20 c).run = some r) : Loops (fun c => stepC EC 300 (loopC EC 20 0) 0 h20 ((.normal, h20) :: x20) (pi20 c) c) c r.1 r.2 := by
  obtain ⟨now, xc, xh, xe, xu, g, nl, n, f, rfl, hb⟩ := r20_inv h
  obtain ⟨hn, hb2⟩ := chkT_run hb
  have hn := le_of (hn 0 _ rfl)
  have hr := ask_ret hb2; subst hr; clear h hb hb2
  simp only [gV_eq]
  have hx : gLoop now ⟨xc, xh, xe, xu⟩ (rdL f n) = gi now xc xh xe xu f n := rfl
  rw [hx]
  refine .see (c1 := st20 now xc xh xe xu nl n f (gi now xc xh xe xu f 0) 0) (seen20n rfl) ?_
  have hk : (cond (Nat.beq (gi now xc xh xe xu f n).1.length 0) 1 1 : Nat) = 0 + 1 := by cases Nat.beq (gi now xc xh xe xu f n).1.length 0 <;> rfl
  rw [hk]
  refine Loops.for (C := fun i => st20 now xc xh xe xu nl n f (gi now xc xh xe xu f i) i) (n := n) (fun i hi => ?_) ?_
  · have hlen := gi_len now xc xh xe xu f i
    rw [show gi now xc xh xe xu f (i + 1) = _ from gi_succ now xc xh xe xu f i]
    refine i20_step now xc xh xe xu nl n f (gi now xc xh xe xu f i) i hn ?_ hi (gLoop_nil now _ _ _ fun _ => rfl)
    cases hp : (gi now xc xh xe xu f i).2 <;> rw [hp] at hlen <;> simp only [cond_true, cond_false] at hlen <;> omega
  · have h0 : (gi now xc xh xe xu f n).1 = [] → (gi now xc xh xe xu f n).2 = false := gLoop_nil now _ _ _ fun _ => rfl
    generalize gi now xc xh xe xu f n = r at h0 ⊢
    obtain ⟨L, p⟩ := r
    cases L with
    | nil =>
      have e := s20t_eq now xc xh xe xu nl n f n
      rw [lt0] at e
      exact ⟨_, e, Seen.mk' (SeenVs.refl _) (SeenOs.refl _)⟩
    | cons y l =>
      have e := s20_eq now xc xh xe xu (y :: l).length (finL (y :: l)) p nl n f n
      rw [lt0] at e
      exact ⟨_, e, Seen.refl _⟩
theorem gD : Bm.Good Try.prog ED := gC.addS (by kernel_rfl) rfl (by decide) (by decide) rfl i20
theorem SeenV.tuple {xs xs' : List AV} (h : SeenVs xs xs') : SeenV (.tuple xs) (.tuple xs') := by
  intro φ v hv
  simp only [VR] at hv ⊢
  obtain ⟨l, e, h1⟩ := hv
  refine ⟨l, e, vrl_mk (by rw [h.at_.1]; exact h1.length) fun i x' hx => ?_⟩
  obtain ⟨x, h3, h4⟩ := h.at_.2 i x' hx
  obtain ⟨u, h5, h6⟩ := h1.at_ i x h3
  exact ⟨u, h5, h4 _ _ h6⟩
theorem bad20 {x : AV} {v : Int} {o : AObj} : Seen ⟨[.tuple [x, .int .i64 v]], [some o]⟩ ⟨[.tuple [.bad, .int .i64 v]], [none]⟩ :=
  Seen.mk' (.cons (SeenV.tuple (.cons SeenV.bad (SeenVs.refl _))) .nil) (.skip .nil)
theorem good20 {m : Nat} {g : Nat → Nat → AV} {L : List Ls} (hm : m = L.length) (hg : IsR g L) : Seen ⟨[.tuple [.osl false 0 0 m m 4 true, .int .i64 0]], [some (.tarr shL m g true)]⟩ ⟨[.tuple [.osl false 0 0 L.length L.length 4 true, .int .i64 0]], [some (.tarr shL L.length (finL L) true)]⟩ := by
  subst hm
  exact Seen.mk' (SeenVs.refl _) (.cons (SeenO.ls rfl hg) .nil)
theorem j20 (c c' : CS) (h : (f20 c).run = some c') : CallC Try.prog 20 0 c c' := by
  obtain ⟨nl, n, f, now, xc, xh, xe, xu, rfl, hb⟩ := f20_inv h
  obtain ⟨hn, hb2⟩ := chkT_run hb
  have hn1 := le_of (hn 0 _ rfl)
  have e := k20_eq nl n f now xc xh xe xu
  rw [hn 0 _ rfl] at e
  have key : ∀ {c1 : CS}, callC ED 1000 20 0 (.agg [.asl shL, .keep]) [] k20_p (a20 nl n f now xc xh xe xu) = some c1 → Seen c1 c' → CallC Try.prog 20 0 (a20 nl n f now xc xh xe xu) c' := fun hx hs => gD.callC (Seen.refl _) hx hs
  simp only [T.run] at hb2
  cases h1 : argV now ⟨xc, xh, xe, xu⟩ with
  | true =>
    rw [h1] at e hb2
    simp only [cond_true, Option.some.injEq] at hb2; subst hb2
    exact key e bad20
  | false =>
    rw [h1] at e hb2
    cases h2 : Nat.blt (idx (busyQ now ⟨xc, xh, xe, xu⟩) f n) n with
    | true =>
      rw [h2] at e hb2
      simp only [cond_true, cond_false, Option.some.injEq] at hb2; subst hb2
      exact key e bad20
    | false =>
      rw [h2] at e hb2
      cases h3 : Nat.blt (idx (newerQ ⟨xc, xh, xe, xu⟩) f n) n with
      | true =>
        rw [h3] at e hb2
        simp only [cond_true, cond_false, Option.some.injEq] at hb2; subst hb2
        exact key e bad20
      | false =>
        rw [h3] at e hb2
        simp only [cond_false, Option.some.injEq] at hb2; subst hb2
        rw [gV_eq] at e
        have ha : aV now ⟨xc, xh, xe, xu⟩ f n = cond (gi now xc xh xe xu f n).2 (gi now xc xh xe xu f n).1 ((gi now xc xh xe xu f n).1 ++ [⟨xc, xh, xe, xu⟩]) := aV_eq _ _ _ _
        rw [ha] at key ⊢
        have hlen := gi_len now xc xh xe xu f n
        have hx : gLoop now ⟨xc, xh, xe, xu⟩ (rdL f n) = gi now xc xh xe xu f n := rfl
        rw [hx] at e
        have h0 : (gi now xc xh xe xu f n).1 = [] → (gi now xc xh xe xu f n).2 = false := gLoop_nil now _ _ _ fun _ => rfl
        clear hb ha hx
        generalize gi now xc xh xe xu f n = r at e hlen h0 key ⊢
        obtain ⟨L, p⟩ := r
        simp only at e hlen h0 key ⊢
        cases L with
        | nil =>
          have := h0 rfl; subst this
          exact key e (good20 rfl (isR_one _))
        | cons y l =>
          have hL : (y :: l).length ≤ 2000 := by cases p <;> simp only [cond_true, cond_false] at hlen <;> omega
          have hz : Nat.beq (y :: l).length 0 = false := rfl
          rw [hz] at e
          generalize y :: l = L at e hL key ⊢
          cases p with
          | true => exact key e (good20 rfl (isR_fin _))
          | false =>
            rw [ble_f (show ¬ L.length + 1 ≤ L.length by omega), growt (show L.length + 1 ≤ 2000000 by omega), ble_t (show 0 + L.length ≤ L.length by omega)] at e
            exact key e (good20 (by simp) (isR_join rfl (isR_zero (isR_fin _)) (isR_one ⟨xc, xh, xe, xu⟩)))
theorem gF : Bm.Good Try.prog EF := gD.addN (by kernel_rfl) j20
end Go.Proofs.Ytckpljmiodgejaa.placeOne
