/- Orders of a history: what the loops and the functions come to. No condition. -/
import Derived.Test.YtbcilfbdbphjgaaWvA
import Derived.KernelRfl
set_option linter.unusedSimpArgs false
set_option linter.unusedVariables false
set_option maxRecDepth 20000
namespace Go.Proofs.Ytbcilfbdbphjgaa.witnessValid
open Go Go.RowKit Go.Proofs.Ytbcilfbdbphjgaa.Bm
theorem r4_inv  {c : CS} {r : Nat × CS} (h : (r4  c).run = some r) : ∃ nl n f, c = c4 nl n f 0 ∧ (r4B  nl n f).run = some r := by
  unfold r4 at h
  split at h
  · rename_i nl n z_1 z_2 z_3 z_4 z_5 z_6 sh_7 z_8 f
    obtain ⟨hc, hb⟩ := chkT_run h
    have h0 := hc 0 _ rfl
    have h0 := of_decide_eq_true h0; subst h0
    have h1 := hc 1 _ rfl
    have h1 := of_decide_eq_true h1; subst h1
    have h2 := hc 2 _ rfl
    have h2 := of_decide_eq_true h2; subst h2
    have h3 := hc 3 _ rfl
    have h3 := of_decide_eq_true h3; subst h3
    have h4 := hc 4 _ rfl
    have h4 := of_decide_eq_true h4; subst h4
    have h5 := hc 5 _ rfl
    have h5 := of_decide_eq_true h5; subst h5
    have h6 := hc 6 _ rfl
    have h6 := (shBeq_eq h6).symm; subst h6
    have h7 := hc 7 _ rfl
    have h7 := of_decide_eq_true h7; subst h7
    exact ⟨nl, n, f, rfl, hb⟩
  · cases h
theorem f4_inv  {c : CS} {r : CS} (h : (f4  c).run = some r) : ∃ nl n f, c = a4 nl n f ∧ (f4B  nl n f).run = some r := by
  unfold f4 at h
  split at h
  · rename_i nl n z_1 sh_2 z_3 f
    obtain ⟨hc, hb⟩ := chkT_run h
    have h0 := hc 0 _ rfl
    have h0 := of_decide_eq_true h0; subst h0
    have h1 := hc 1 _ rfl
    have h1 := (shBeq_eq h1).symm; subst h1
    have h2 := hc 2 _ rfl
    have h2 := of_decide_eq_true h2; subst h2
    exact ⟨nl, n, f, rfl, hb⟩
  · cases h
theorem r13_inv  {c : CS} {r : Nat × CS} (h : (r13  c).run = some r) : ∃ bl nl n f, c = c13 bl nl n f 0 ∧ (r13B  bl nl n f).run = some r := by
  unfold r13 at h
  split at h
  · rename_i bl nl n z_1 z_2 z_3 sh_4 z_5 f
    obtain ⟨hc, hb⟩ := chkT_run h
    have h0 := hc 0 _ rfl
    have h0 := of_decide_eq_true h0; subst h0
    have h1 := hc 1 _ rfl
    have h1 := of_decide_eq_true h1; subst h1
    have h2 := hc 2 _ rfl
    have h2 := of_decide_eq_true h2; subst h2
    have h3 := hc 3 _ rfl
    have h3 := (shBeq_eq h3).symm; subst h3
    have h4 := hc 4 _ rfl
    have h4 := of_decide_eq_true h4; subst h4
    exact ⟨bl, nl, n, f, rfl, hb⟩
  · cases h
theorem r11_inv  {c : CS} {r : Nat × CS} (h : (r11  c).run = some r) : ∃ nl n f bl, c = c11 nl n f bl 0 ∧ (r11B  nl n f bl).run = some r := by
  unfold r11 at h
  split at h
  · rename_i nl n z_1 bl z_2 sh_3 z_4 f
    obtain ⟨hc, hb⟩ := chkT_run h
    have h0 := hc 0 _ rfl
    have h0 := of_decide_eq_true h0; subst h0
    have h1 := hc 1 _ rfl
    have h1 := of_decide_eq_true h1; subst h1
    have h2 := hc 2 _ rfl
    have h2 := (shBeq_eq h2).symm; subst h2
    have h3 := hc 3 _ rfl
    have h3 := of_decide_eq_true h3; subst h3
    exact ⟨nl, n, f, bl, rfl, hb⟩
  · cases h
theorem f13_inv  {c : CS} {r : CS} (h : (f13  c).run = some r) : ∃ nl n f bl, c = a13 nl n f bl ∧ (f13B  nl n f bl).run = some r := by
  unfold f13 at h
  split at h
  · rename_i nl n z_1 bl sh_2 z_3 f
    obtain ⟨hc, hb⟩ := chkT_run h
    have h0 := hc 0 _ rfl
    have h0 := of_decide_eq_true h0; subst h0
    have h1 := hc 1 _ rfl
    have h1 := (shBeq_eq h1).symm; subst h1
    have h2 := hc 2 _ rfl
    have h2 := of_decide_eq_true h2; subst h2
    exact ⟨nl, n, f, bl, rfl, hb⟩
  · cases h
theorem r18_inv  {c : CS} {r : Nat × CS} (h : (r18  c).run = some r) : ∃ ol m g x, c = c18 ol m g x 0 ∧ (r18B  ol m g x).run = some r := by
  unfold r18 at h
  split at h
  · rename_i ol m z_1 x z_2 sh_3 z_4 g
    obtain ⟨hc, hb⟩ := chkT_run h
    have h0 := hc 0 _ rfl
    have h0 := of_decide_eq_true h0; subst h0
    have h1 := hc 1 _ rfl
    have h1 := of_decide_eq_true h1; subst h1
    have h2 := hc 2 _ rfl
    have h2 := (shBeq_eq h2).symm; subst h2
    have h3 := hc 3 _ rfl
    have h3 := of_decide_eq_true h3; subst h3
    exact ⟨ol, m, g, x, rfl, hb⟩
  · cases h
theorem f18_inv  {c : CS} {r : CS} (h : (f18  c).run = some r) : ∃ ol m g x, c = a18 ol m g x ∧ (f18B  ol m g x).run = some r := by
  unfold f18 at h
  split at h
  · rename_i ol m z_1 x sh_2 z_3 g
    obtain ⟨hc, hb⟩ := chkT_run h
    have h0 := hc 0 _ rfl
    have h0 := of_decide_eq_true h0; subst h0
    have h1 := hc 1 _ rfl
    have h1 := (shBeq_eq h1).symm; subst h1
    have h2 := hc 2 _ rfl
    have h2 := of_decide_eq_true h2; subst h2
    exact ⟨ol, m, g, x, rfl, hb⟩
  · cases h
theorem r12a_inv  {c : CS} {r : Nat × CS} (h : (r12a  c).run = some r) : ∃ nl n f ol m g, c = c12 nl n f ol m g 0 ∧ (r12aB  nl n f ol m g).run = some r := by
  unfold r12a at h
  split at h
  · rename_i nl n z_1 ol m z_2 z_3 sh_4 z_5 f sh_6 z_7 g
    obtain ⟨hc, hb⟩ := chkT_run h
    have h0 := hc 0 _ rfl
    have h0 := of_decide_eq_true h0; subst h0
    have h1 := hc 1 _ rfl
    have h1 := of_decide_eq_true h1; subst h1
    have h2 := hc 2 _ rfl
    have h2 := of_decide_eq_true h2; subst h2
    have h3 := hc 3 _ rfl
    have h3 := (shBeq_eq h3).symm; subst h3
    have h4 := hc 4 _ rfl
    have h4 := of_decide_eq_true h4; subst h4
    have h5 := hc 5 _ rfl
    have h5 := (shBeq_eq h5).symm; subst h5
    have h6 := hc 6 _ rfl
    have h6 := of_decide_eq_true h6; subst h6
    exact ⟨nl, n, f, ol, m, g, rfl, hb⟩
  · cases h
theorem r12b_inv  {c : CS} {r : Nat × CS} (h : (r12b  c).run = some r) : ∃ nl n f ol m g, c = c12 nl n f ol m g 0 ∧ (r12bB  nl n f ol m g).run = some r := by
  unfold r12b at h
  split at h
  · rename_i nl n z_1 ol m z_2 z_3 sh_4 z_5 f sh_6 z_7 g
    obtain ⟨hc, hb⟩ := chkT_run h
    have h0 := hc 0 _ rfl
    have h0 := of_decide_eq_true h0; subst h0
    have h1 := hc 1 _ rfl
    have h1 := of_decide_eq_true h1; subst h1
    have h2 := hc 2 _ rfl
    have h2 := of_decide_eq_true h2; subst h2
    have h3 := hc 3 _ rfl
    have h3 := (shBeq_eq h3).symm; subst h3
    have h4 := hc 4 _ rfl
    have h4 := of_decide_eq_true h4; subst h4
    have h5 := hc 5 _ rfl
    have h5 := (shBeq_eq h5).symm; subst h5
    have h6 := hc 6 _ rfl
    have h6 := of_decide_eq_true h6; subst h6
    exact ⟨nl, n, f, ol, m, g, rfl, hb⟩
  · cases h
theorem f12_inv  {c : CS} {r : CS} (h : (f12  c).run = some r) : ∃ nl n f ol m g, c = a12 nl n f ol m g ∧ (f12B  nl n f ol m g).run = some r := by
  unfold f12 at h
  split at h
  · rename_i nl n z_1 ol m z_2 sh_3 z_4 f sh_5 z_6 g
    obtain ⟨hc, hb⟩ := chkT_run h
    have h0 := hc 0 _ rfl
    have h0 := of_decide_eq_true h0; subst h0
    have h1 := hc 1 _ rfl
    have h1 := of_decide_eq_true h1; subst h1
    have h2 := hc 2 _ rfl
    have h2 := (shBeq_eq h2).symm; subst h2
    have h3 := hc 3 _ rfl
    have h3 := of_decide_eq_true h3; subst h3
    have h4 := hc 4 _ rfl
    have h4 := (shBeq_eq h4).symm; subst h4
    have h5 := hc 5 _ rfl
    have h5 := of_decide_eq_true h5; subst h5
    exact ⟨nl, n, f, ol, m, g, rfl, hb⟩
  · cases h
theorem r14a_inv  {c : CS} {r : Nat × CS} (h : (r14a  c).run = some r) : ∃ nl n f sq ol m g, c = c14a nl n f sq ol m g 0 ∧ (r14aB  nl n f sq ol m g).run = some r := by
  unfold r14a at h
  split at h
  · rename_i nl n z_1 z_2 z_3 z_4 ol m z_5 z_6 z_7 sh_8 z_9 f sh_10 z_11 sq sh_12 z_13 g
    obtain ⟨hc, hb⟩ := chkT_run h
    have h0 := hc 0 _ rfl
    have h0 := of_decide_eq_true h0; subst h0
    have h1 := hc 1 _ rfl
    have h1 := of_decide_eq_true h1; subst h1
    have h2 := hc 2 _ rfl
    have h2 := of_decide_eq_true h2; subst h2
    have h3 := hc 3 _ rfl
    have h3 := of_decide_eq_true h3; subst h3
    have h4 := hc 4 _ rfl
    have h4 := of_decide_eq_true h4; subst h4
    have h5 := hc 5 _ rfl
    have h5 := of_decide_eq_true h5; subst h5
    have h6 := hc 6 _ rfl
    have h6 := of_decide_eq_true h6; subst h6
    have h7 := hc 7 _ rfl
    have h7 := (shBeq_eq h7).symm; subst h7
    have h8 := hc 8 _ rfl
    have h8 := of_decide_eq_true h8; subst h8
    have h9 := hc 9 _ rfl
    have h9 := (shBeq_eq h9).symm; subst h9
    have h10 := hc 10 _ rfl
    have h10 := of_decide_eq_true h10; subst h10
    have h11 := hc 11 _ rfl
    have h11 := (shBeq_eq h11).symm; subst h11
    have h12 := hc 12 _ rfl
    have h12 := of_decide_eq_true h12; subst h12
    exact ⟨nl, n, f, sq, ol, m, g, rfl, hb⟩
  · cases h
theorem r14b_inv  {c : CS} {r : Nat × CS} (h : (r14b  c).run = some r) : ∃ n sq nl f, c = c14b n sq nl f 0 ∧ (r14bB  n sq nl f).run = some r := by
  unfold r14b at h
  split at h
  · rename_i z_1 n z_2 nl z_3 z_4 z_5 z_6 sh_7 z_8 sq sh_9 z_10 f
    obtain ⟨hc, hb⟩ := chkT_run h
    have h0 := hc 0 _ rfl
    have h0 := of_decide_eq_true h0; subst h0
    have h1 := hc 1 _ rfl
    have h1 := of_decide_eq_true h1; subst h1
    have h2 := hc 2 _ rfl
    have h2 := of_decide_eq_true h2; subst h2
    have h3 := hc 3 _ rfl
    have h3 := of_decide_eq_true h3; subst h3
    have h4 := hc 4 _ rfl
    have h4 := of_decide_eq_true h4; subst h4
    have h5 := hc 5 _ rfl
    have h5 := of_decide_eq_true h5; subst h5
    have h6 := hc 6 _ rfl
    have h6 := (shBeq_eq h6).symm; subst h6
    have h7 := hc 7 _ rfl
    have h7 := of_decide_eq_true h7; subst h7
    have h8 := hc 8 _ rfl
    have h8 := (shBeq_eq h8).symm; subst h8
    have h9 := hc 9 _ rfl
    have h9 := of_decide_eq_true h9; subst h9
    exact ⟨n, sq, nl, f, rfl, hb⟩
  · cases h
theorem f14_inv  {c : CS} {r : CS} (h : (f14  c).run = some r) : ∃ nl n f ol m g, c = a12 nl n f ol m g ∧ (f14B  nl n f ol m g).run = some r := by
  unfold f14 at h
  split at h
  · rename_i nl n z_1 ol m z_2 sh_3 z_4 f sh_5 z_6 g
    obtain ⟨hc, hb⟩ := chkT_run h
    have h0 := hc 0 _ rfl
    have h0 := of_decide_eq_true h0; subst h0
    have h1 := hc 1 _ rfl
    have h1 := of_decide_eq_true h1; subst h1
    have h2 := hc 2 _ rfl
    have h2 := (shBeq_eq h2).symm; subst h2
    have h3 := hc 3 _ rfl
    have h3 := of_decide_eq_true h3; subst h3
    have h4 := hc 4 _ rfl
    have h4 := (shBeq_eq h4).symm; subst h4
    have h5 := hc 5 _ rfl
    have h5 := of_decide_eq_true h5; subst h5
    exact ⟨nl, n, f, ol, m, g, rfl, hb⟩
  · cases h
theorem r7_inv  {c : CS} {r : Nat × CS} (h : (r7  c).run = some r) : ∃ nl n f ol m g s, c = c7 nl n f ol m g s 0 ∧ (r7B  nl n f ol m g s).run = some r := by
  unfold r7 at h
  split at h
  · rename_i nl n z_1 ol m z_2 s z_3 sh_4 z_5 f sh_6 z_7 g
    obtain ⟨hc, hb⟩ := chkT_run h
    have h0 := hc 0 _ rfl
    have h0 := of_decide_eq_true h0; subst h0
    have h1 := hc 1 _ rfl
    have h1 := of_decide_eq_true h1; subst h1
    have h2 := hc 2 _ rfl
    have h2 := of_decide_eq_true h2; subst h2
    have h3 := hc 3 _ rfl
    have h3 := (shBeq_eq h3).symm; subst h3
    have h4 := hc 4 _ rfl
    have h4 := of_decide_eq_true h4; subst h4
    have h5 := hc 5 _ rfl
    have h5 := (shBeq_eq h5).symm; subst h5
    have h6 := hc 6 _ rfl
    have h6 := of_decide_eq_true h6; subst h6
    exact ⟨nl, n, f, ol, m, g, s, rfl, hb⟩
  · cases h
theorem f7_inv  {c : CS} {r : CS} (h : (f7  c).run = some r) : ∃ nl n f bl ol m g, c = a7 nl n f bl ol m g ∧ (f7B  nl n f bl ol m g).run = some r := by
  unfold f7 at h
  split at h
  · rename_i nl n z_1 bl ol m z_2 sh_3 z_4 f sh_5 z_6 g
    obtain ⟨hc, hb⟩ := chkT_run h
    have h0 := hc 0 _ rfl
    have h0 := of_decide_eq_true h0; subst h0
    have h1 := hc 1 _ rfl
    have h1 := of_decide_eq_true h1; subst h1
    have h2 := hc 2 _ rfl
    have h2 := (shBeq_eq h2).symm; subst h2
    have h3 := hc 3 _ rfl
    have h3 := of_decide_eq_true h3; subst h3
    have h4 := hc 4 _ rfl
    have h4 := (shBeq_eq h4).symm; subst h4
    have h5 := hc 5 _ rfl
    have h5 := of_decide_eq_true h5; subst h5
    exact ⟨nl, n, f, bl, ol, m, g, rfl, hb⟩
  · cases h
theorem r6b_inv  {c : CS} {r : Nat × CS} (h : (r6b  c).run = some r) : ∃ nl n f bl ol m g a, c = c6b nl n f bl ol m g a (a + 1) ∧ (r6bB  nl n f bl ol m g a).run = some r := by
  unfold r6b at h
  split at h
  · rename_i nl n z_1 bl ol m z_2 a z_3 sh_4 z_5 f sh_6 z_7 g
    obtain ⟨hc, hb⟩ := chkT_run h
    have h0 := hc 0 _ rfl
    have h0 := of_decide_eq_true h0; subst h0
    have h1 := hc 1 _ rfl
    have h1 := of_decide_eq_true h1; subst h1
    have h2 := hc 2 _ rfl
    have h2 := of_decide_eq_true h2; subst h2
    have h3 := hc 3 _ rfl
    have h3 := (shBeq_eq h3).symm; subst h3
    have h4 := hc 4 _ rfl
    have h4 := of_decide_eq_true h4; subst h4
    have h5 := hc 5 _ rfl
    have h5 := (shBeq_eq h5).symm; subst h5
    have h6 := hc 6 _ rfl
    have h6 := of_decide_eq_true h6; subst h6
    exact ⟨nl, n, f, bl, ol, m, g, a, rfl, hb⟩
  · cases h
theorem r6a_inv  {c : CS} {r : Nat × CS} (h : (r6a  c).run = some r) : ∃ nl n f bl ol m g, c = c6a nl n f bl ol m g 0 ∧ (r6aB  nl n f bl ol m g).run = some r := by
  unfold r6a at h
  split at h
  · rename_i nl n z_1 bl ol m z_2 z_3 sh_4 z_5 f sh_6 z_7 g
    obtain ⟨hc, hb⟩ := chkT_run h
    have h0 := hc 0 _ rfl
    have h0 := of_decide_eq_true h0; subst h0
    have h1 := hc 1 _ rfl
    have h1 := of_decide_eq_true h1; subst h1
    have h2 := hc 2 _ rfl
    have h2 := of_decide_eq_true h2; subst h2
    have h3 := hc 3 _ rfl
    have h3 := (shBeq_eq h3).symm; subst h3
    have h4 := hc 4 _ rfl
    have h4 := of_decide_eq_true h4; subst h4
    have h5 := hc 5 _ rfl
    have h5 := (shBeq_eq h5).symm; subst h5
    have h6 := hc 6 _ rfl
    have h6 := of_decide_eq_true h6; subst h6
    exact ⟨nl, n, f, bl, ol, m, g, rfl, hb⟩
  · cases h
theorem f6_inv  {c : CS} {r : CS} (h : (f6  c).run = some r) : ∃ nl n f bl ol m g, c = a7 nl n f bl ol m g ∧ (f6B  nl n f bl ol m g).run = some r := by
  unfold f6 at h
  split at h
  · rename_i nl n z_1 bl ol m z_2 sh_3 z_4 f sh_5 z_6 g
    obtain ⟨hc, hb⟩ := chkT_run h
    have h0 := hc 0 _ rfl
    have h0 := of_decide_eq_true h0; subst h0
    have h1 := hc 1 _ rfl
    have h1 := of_decide_eq_true h1; subst h1
    have h2 := hc 2 _ rfl
    have h2 := (shBeq_eq h2).symm; subst h2
    have h3 := hc 3 _ rfl
    have h3 := of_decide_eq_true h3; subst h3
    have h4 := hc 4 _ rfl
    have h4 := (shBeq_eq h4).symm; subst h4
    have h5 := hc 5 _ rfl
    have h5 := of_decide_eq_true h5; subst h5
    exact ⟨nl, n, f, bl, ol, m, g, rfl, hb⟩
  · cases h
theorem r8_inv  {c : CS} {r : Nat × CS} (h : (r8  c).run = some r) : ∃ nl n f s ol m g, c = c8 nl n f s 0 ol m g 0 ∧ (r8B  nl n f s ol m g).run = some r := by
  unfold r8 at h
  split at h
  · rename_i nl n z_1 z_2 ol m z_3 z_4 z_5 sh_6 z_7 f z_8 z_9 s z_10 z_11 z_12 z_13 z_14 z_15 z_16 z_17 z_18 z_19 z_20 z_21 z_22 z_23 z_24 z_25 sh_26 z_27 g
    obtain ⟨hc, hb⟩ := chkT_run h
    have h0 := hc 0 _ rfl
    have h0 := of_decide_eq_true h0; subst h0
    have h1 := hc 1 _ rfl
    have h1 := of_decide_eq_true h1; subst h1
    have h2 := hc 2 _ rfl
    have h2 := of_decide_eq_true h2; subst h2
    have h3 := hc 3 _ rfl
    have h3 := of_decide_eq_true h3; subst h3
    have h4 := hc 4 _ rfl
    have h4 := of_decide_eq_true h4; subst h4
    have h5 := hc 5 _ rfl
    have h5 := (shBeq_eq h5).symm; subst h5
    have h6 := hc 6 _ rfl
    have h6 := of_decide_eq_true h6; subst h6
    have h7 := hc 7 _ rfl
    have h7 := of_decide_eq_true h7; subst h7
    have h8 := hc 8 _ rfl
    have h8 := of_decide_eq_true h8; subst h8
    have h9 := hc 9 _ rfl
    have h9 := of_decide_eq_true h9; subst h9
    have h10 := hc 10 _ rfl
    have h10 := of_decide_eq_true h10; subst h10
    have h11 := hc 11 _ rfl
    have h11 := of_decide_eq_true h11; subst h11
    have h12 := hc 12 _ rfl
    have h12 := of_decide_eq_true h12; subst h12
    have h13 := hc 13 _ rfl
    have h13 := of_decide_eq_true h13; subst h13
    have h14 := hc 14 _ rfl
    have h14 := of_decide_eq_true h14; subst h14
    have h15 := hc 15 _ rfl
    have h15 := of_decide_eq_true h15; subst h15
    have h16 := hc 16 _ rfl
    have h16 := of_decide_eq_true h16; subst h16
    have h17 := hc 17 _ rfl
    have h17 := of_decide_eq_true h17; subst h17
    have h18 := hc 18 _ rfl
    have h18 := of_decide_eq_true h18; subst h18
    have h19 := hc 19 _ rfl
    have h19 := of_decide_eq_true h19; subst h19
    have h20 := hc 20 _ rfl
    have h20 := of_decide_eq_true h20; subst h20
    have h21 := hc 21 _ rfl
    have h21 := of_decide_eq_true h21; subst h21
    have h22 := hc 22 _ rfl
    have h22 := of_decide_eq_true h22; subst h22
    have h23 := hc 23 _ rfl
    have h23 := of_decide_eq_true h23; subst h23
    have h24 := hc 24 _ rfl
    have h24 := of_decide_eq_true h24; subst h24
    have h25 := hc 25 _ rfl
    have h25 := (shBeq_eq h25).symm; subst h25
    have h26 := hc 26 _ rfl
    have h26 := of_decide_eq_true h26; subst h26
    exact ⟨nl, n, f, s, ol, m, g, rfl, hb⟩
  · cases h
theorem f8_inv  {c : CS} {r : CS} (h : (f8  c).run = some r) : ∃ nl n f bl ol m g, c = a7 nl n f bl ol m g ∧ (f8B  nl n f bl ol m g).run = some r := by
  unfold f8 at h
  split at h
  · rename_i nl n z_1 bl ol m z_2 sh_3 z_4 f sh_5 z_6 g
    obtain ⟨hc, hb⟩ := chkT_run h
    have h0 := hc 0 _ rfl
    have h0 := of_decide_eq_true h0; subst h0
    have h1 := hc 1 _ rfl
    have h1 := of_decide_eq_true h1; subst h1
    have h2 := hc 2 _ rfl
    have h2 := (shBeq_eq h2).symm; subst h2
    have h3 := hc 3 _ rfl
    have h3 := of_decide_eq_true h3; subst h3
    have h4 := hc 4 _ rfl
    have h4 := (shBeq_eq h4).symm; subst h4
    have h5 := hc 5 _ rfl
    have h5 := of_decide_eq_true h5; subst h5
    exact ⟨nl, n, f, bl, ol, m, g, rfl, hb⟩
  · cases h
theorem r9_inv  {c : CS} {r : Nat × CS} (h : (r9  c).run = some r) : ∃ nl n f s ol m g, c = c9 nl n f s ol m g 0 ∧ (r9B  nl n f s ol m g).run = some r := by
  unfold r9 at h
  split at h
  · rename_i nl n z_1 ol m z_2 z_3 z_4 sh_5 z_6 f z_7 z_8 s z_9 z_10 z_11 z_12 z_13 z_14 z_15 z_16 z_17 z_18 z_19 z_20 z_21 z_22 z_23 z_24 sh_25 z_26 g
    obtain ⟨hc, hb⟩ := chkT_run h
    have h0 := hc 0 _ rfl
    have h0 := of_decide_eq_true h0; subst h0
    have h1 := hc 1 _ rfl
    have h1 := of_decide_eq_true h1; subst h1
    have h2 := hc 2 _ rfl
    have h2 := of_decide_eq_true h2; subst h2
    have h3 := hc 3 _ rfl
    have h3 := of_decide_eq_true h3; subst h3
    have h4 := hc 4 _ rfl
    have h4 := (shBeq_eq h4).symm; subst h4
    have h5 := hc 5 _ rfl
    have h5 := of_decide_eq_true h5; subst h5
    have h6 := hc 6 _ rfl
    have h6 := of_decide_eq_true h6; subst h6
    have h7 := hc 7 _ rfl
    have h7 := of_decide_eq_true h7; subst h7
    have h8 := hc 8 _ rfl
    have h8 := of_decide_eq_true h8; subst h8
    have h9 := hc 9 _ rfl
    have h9 := of_decide_eq_true h9; subst h9
    have h10 := hc 10 _ rfl
    have h10 := of_decide_eq_true h10; subst h10
    have h11 := hc 11 _ rfl
    have h11 := of_decide_eq_true h11; subst h11
    have h12 := hc 12 _ rfl
    have h12 := of_decide_eq_true h12; subst h12
    have h13 := hc 13 _ rfl
    have h13 := of_decide_eq_true h13; subst h13
    have h14 := hc 14 _ rfl
    have h14 := of_decide_eq_true h14; subst h14
    have h15 := hc 15 _ rfl
    have h15 := of_decide_eq_true h15; subst h15
    have h16 := hc 16 _ rfl
    have h16 := of_decide_eq_true h16; subst h16
    have h17 := hc 17 _ rfl
    have h17 := of_decide_eq_true h17; subst h17
    have h18 := hc 18 _ rfl
    have h18 := of_decide_eq_true h18; subst h18
    have h19 := hc 19 _ rfl
    have h19 := of_decide_eq_true h19; subst h19
    have h20 := hc 20 _ rfl
    have h20 := of_decide_eq_true h20; subst h20
    have h21 := hc 21 _ rfl
    have h21 := of_decide_eq_true h21; subst h21
    have h22 := hc 22 _ rfl
    have h22 := of_decide_eq_true h22; subst h22
    have h23 := hc 23 _ rfl
    have h23 := of_decide_eq_true h23; subst h23
    have h24 := hc 24 _ rfl
    have h24 := (shBeq_eq h24).symm; subst h24
    have h25 := hc 25 _ rfl
    have h25 := of_decide_eq_true h25; subst h25
    exact ⟨nl, n, f, s, ol, m, g, rfl, hb⟩
  · cases h
theorem f9_inv  {c : CS} {r : CS} (h : (f9  c).run = some r) : ∃ nl n f bl ol m g, c = a7 nl n f bl ol m g ∧ (f9B  nl n f bl ol m g).run = some r := by
  unfold f9 at h
  split at h
  · rename_i nl n z_1 bl ol m z_2 sh_3 z_4 f sh_5 z_6 g
    obtain ⟨hc, hb⟩ := chkT_run h
    have h0 := hc 0 _ rfl
    have h0 := of_decide_eq_true h0; subst h0
    have h1 := hc 1 _ rfl
    have h1 := of_decide_eq_true h1; subst h1
    have h2 := hc 2 _ rfl
    have h2 := (shBeq_eq h2).symm; subst h2
    have h3 := hc 3 _ rfl
    have h3 := of_decide_eq_true h3; subst h3
    have h4 := hc 4 _ rfl
    have h4 := (shBeq_eq h4).symm; subst h4
    have h5 := hc 5 _ rfl
    have h5 := of_decide_eq_true h5; subst h5
    exact ⟨nl, n, f, bl, ol, m, g, rfl, hb⟩
  · cases h
theorem ble_t {n m : Nat} (h : n ≤ m) : Nat.ble n m = true := Nat.ble_eq_true_of_le h
theorem ble_f {n m : Nat} (h : ¬ n ≤ m) : Nat.ble n m = false := by rw [ble_iff, decide_eq_false h]
theorem le_of {n m : Nat} (h : Nat.ble n m = true) : n ≤ m := Nat.le_of_ble_eq_true h
theorem lt1 {i n : Nat} (h : i < n) : decide ((i : Int) < (n : Int)) = true := decide_eq_true (by omega)
theorem lt0 (n : Nat) : decide ((n : Int) < (n : Int)) = false := decide_eq_false (by omega)
theorem blt_t {n m : Nat} (h : n < m) : Nat.blt n m = true := by rw [blt_iff]; exact decide_eq_true h
theorem blt_f {n m : Nat} (h : ¬ n < m) : Nat.blt n m = false := by rw [blt_iff]; exact decide_eq_false h
theorem lt_of {n m : Nat} (h : Nat.blt n m = true) : n < m := by rw [blt_iff] at h; exact of_decide_eq_true h
theorem not_lt {a b : Int} (h : (!(decide (a < b))) = true) : b ≤ a := by
  cases hd : decide (a < b) with
  | true => rw [hd] at h; cases h
  | false => have := of_decide_eq_false hd; omega
theorem not_gt {a b : Int} (h : (!(decide (a > b))) = true) : a ≤ b := by
  cases hd : decide (a > b) with
  | true => rw [hd] at h; cases h
  | false => have := of_decide_eq_false hd; omega
theorem sel {α : Type} (p q : Bool) (A B : α) : cond p (cond q A B) B = cond (p && q) A B := by cases p <;> rfl
theorem wrapi {m : Nat} (h : m < 9223372036854775808) : IntKind.i64.wrap (m : Int) = (m : Int) := by
  have e : IntKind.i64.wrap (m : Int) = if (m : Int) % 18446744073709551616 ≥ 9223372036854775808 then (m : Int) % 18446744073709551616 - 18446744073709551616 else (m : Int) % 18446744073709551616 := by
    unfold IntKind.wrap
    simp [IntKind.bits, IntKind.signed]
  rw [e]
  split <;> omega
theorem wi1 {i n : Nat} (h : i < n) (hn : n ≤ 9223372036854775807) : IntKind.wrap .i64 ((i : Int) + 1) = ((i + 1 : Nat) : Int) := by
  have := wrapi (m := i + 1) (by omega)
  simpa using this
theorem wu {a : Nat} (h : a < 18446744073709551616) : IntKind.wrap .u64 (a : Int) = (a : Int) := wrap_u64 (Int.natCast_nonneg _) (by omega)
theorem wi {a : Nat} (h : a < 9223372036854775808) : IntKind.wrap .i64 (a : Int) = (a : Int) := wrapi h
theorem w8 {a : Nat} (h : a < 1000000000000) : IntKind.wrap .i64 (8 * (a : Int)) = ((8 * a : Nat) : Int) := by
  have := wrapi (m := 8 * a) (by omega)
  simpa using this
theorem w8r {a : Nat} (h : a < 1000000000000) : IntKind.wrap .i64 ((a : Int) * 8) = ((8 * a : Nat) : Int) := by
  rw [Int.mul_comm]; exact w8 h
theorem wad {a b : Nat} (h : a + b < 9223372036854775808) : IntKind.wrap .i64 ((a : Int) + (b : Int)) = ((a + b : Nat) : Int) := by
  have := wrapi h
  simpa using this
theorem wadu {a b : Nat} (h : a + b < 18446744073709551616) : IntKind.wrap .u64 ((a : Int) + (b : Int)) = ((a + b : Nat) : Int) := by
  have := wu h
  simpa using this
theorem w32 {a : Nat} (h : a < 4294967296) : IntKind.wrap .u32 (a : Int) = (a : Int) := by
  have e : IntKind.wrap .u32 (a : Int) = (a : Int) % 4294967296 := by
    unfold IntKind.wrap
    simp [IntKind.bits, IntKind.signed]
  rw [e]; omega
theorem ask_ret {A : Type} {b : Bool} {k1 k2 : Nat} {x y : A} {r : Nat × A} (h : (T.ask b (.ret (k1, x)) (.ret (k2, y))).run = some r) : r = (cond b k1 k2, cond b x y) := by
  cases b <;> simpa [T.run] using h.symm
theorem ask_scan {b : Bool} {x y : CS} {r : Nat × CS} (h : (T.ask b (.ret (1, x)) (.ret (2, y))).run = some r) : r = cond b (1, x) (2, y) := by
  cases b <;> simpa [T.run] using h.symm
theorem q0 : Bm.Good Try.prog E0 := good0 (by kernel_rfl) (by kernel_rfl) (by kernel_rfl)
theorem q1 : Bm.Good Try.prog E1 := q0.bits
theorem rngA_at {f : Nat → Nat → AV} {n i : Nat} (h : rngV f n = true) (hi : i < n) : ∃ a b : Nat, (f i 2).toI = (a : Int) ∧ (f i 3).toI = (b : Int) ∧ a < 4294967296 ∧ b < 4294967296 := by
  rw [rngV_eq] at h
  have := okFrom_iff.1 h i hi
  rw [Nat.zero_add] at this
  have this : (decide (0 ≤ (f i 2).toI) && decide ((f i 2).toI < 4294967296) && decide (0 ≤ (f i 3).toI) && decide ((f i 3).toI < 4294967296)) = true := this
  simp only [Bool.and_eq_true, decide_eq_true_eq] at this
  obtain ⟨a, ha⟩ := Int.eq_ofNat_of_zero_le this.1.1.1
  obtain ⟨b, hb⟩ := Int.eq_ofNat_of_zero_le this.1.2
  exact ⟨a, b, ha, hb, by omega, by omega⟩
/-! ### Light -/
theorem i4 (c : CS) (r : Nat × CS) (h : (r4 c).run = some r) : ∃ it, iterC (stepC E1 400 (loopC E1 4 0) 0 h4 ((.normal, h4) :: x4) s4_p) it c = some r := by
  obtain ⟨nl, n, f, rfl, hb⟩ := r4_inv h
  obtain ⟨hn, hb2⟩ := chkT_run hb
  have hn := hn 0 _ rfl
  rw [okNV_eq] at hn
  have hn := of_decide_eq_true hn
  have hr := ask_scan hb2; subst hr
  rw [okLV_eq]
  refine iter_scan (C := fun i => c4 nl n f i) (q := fun i => !(decide (((AV.toS (f i 4)).length : Int) > 1000))) (by simp) (by simp) (fun i hi => ?_) ?_
  · have e := s4_eq nl n f i
    rw [lt1 hi, ix_, blt_t hi, wi1 hi hn] at e
    refine Eq.trans e ?_
    cases decide (((AV.toS (f i 4)).length : Int) > 1000) <;> rfl
  · have e := s4_eq nl n f n
    rw [lt0] at e
    exact e
theorem q2 : Bm.Good Try.prog E2 := q1.addL (by kernel_rfl) rfl (by decide) (by decide) rfl i4
theorem j4 (c c' : CS) (h : (f4 c).run = some c') : ∃ m pr ros π, callC E2 m 4 0 pr ros π c = some c' := by
  obtain ⟨nl, n, f, rfl, hb⟩ := f4_inv h
  obtain ⟨hn, hb2⟩ := chkT_run hb
  have e := k4_eq nl n f
  rw [hn 0 _ rfl] at e
  refine ⟨1500, .keep, [], k4_p, e.trans ?_⟩
  rw [← hb2]
  cases okLV f n <;> rfl
theorem q3 : Bm.Good Try.prog E3 := q2.addR q2 (by kernel_rfl) j4
/-! ### Good -/
theorem good_eq {f : Nat → Nat → AV} {i a b bl : Nat} (ha : (f i 2).toI = (a : Int)) (hb : (f i 3).toI = (b : Int)) : goodO (bl : Int) (opAt f i) = (!(decide ((b : Int) < 1)) && !(decide ((a : Int) + (b : Int) > (bl : Int))) && !(decide ((f i 5).toI < 0)) && !((f i 6).toI != 0 && decide ((f i 6).toI ≤ (f i 5).toI)) && !(((f i 1).toB || (f i 6).toI != 0) && (((f i 4).toS.length : Int) != 8 * (b : Int)))) := by
  rw [← ha, ← hb]; rfl
theorem i13 (c : CS) (r : Nat × CS) (h : (r13 c).run = some r) : ∃ it, iterC (stepC E3 400 (loopC E3 13 0) 0 h13 ((.normal, h13) :: x13) s13_p) it c = some r := by
  obtain ⟨bl, nl, n, f, rfl, hb⟩ := r13_inv h
  obtain ⟨hn, hb2⟩ := chkT_run hb
  have hr := hn 1 _ rfl
  have h1 := not_lt (hn 2 _ rfl)
  have h2 := not_gt (hn 3 _ rfl)
  have hn := le_of (hn 0 _ rfl)
  obtain ⟨z, rfl⟩ := Int.eq_ofNat_of_zero_le (show 0 ≤ bl by omega)
  have hr2 := ask_scan hb2; subst hr2
  rw [okGV_eq]
  refine iter_scan (C := fun i => c13 (z : Int) nl n f i) (q := fun i => goodO (z : Int) (opAt f i)) (by simp) (by simp) (fun i hi => ?_) ?_
  · obtain ⟨a, b, ha, hb, la, lb⟩ := rngA_at hr hi
    have e := s13_eq (z : Int) nl n f i
    rw [lt1 hi, ix_, blt_t hi, wrap_i64s (by omega), ha, hb, wu (a := a) (by omega), wu (a := b) (by omega), wu (a := z) (by omega), wadu (a := a) (b := b) (by omega), wi (a := b) (by omega), w8 (a := b) (by omega)] at e
    refine Eq.trans e ?_
    rw [good_eq ha hb, show decide ((b : Int) > 0) = !(decide ((b : Int) < 1)) from by by_cases h : (b : Int) < 1 <;> simp [h] <;> omega,
      show decide (((a + b : Nat) : Int) ≤ (z : Int)) = !(decide ((a : Int) + (b : Int) > (z : Int))) from by by_cases h : (a : Int) + (b : Int) > (z : Int) <;> simp [h] <;> omega,
      show ((8 * b : Nat) : Int) = 8 * (b : Int) from by simp]
    cases (f i 1).toB <;> cases decide ((b : Int) < 1) <;> cases decide ((a : Int) + (b : Int) > (z : Int)) <;> cases decide ((f i 5).toI < 0) <;> cases ((f i 6).toI != 0) <;> cases decide ((f i 6).toI ≤ (f i 5).toI) <;> cases (((f i 4).toS.length : Int) != 8 * (b : Int)) <;> rfl
  · have e := s13_eq (z : Int) nl n f n
    rw [lt0] at e
    exact e
theorem q4 : Bm.Good Try.prog E4 := q3.addL (by kernel_rfl) rfl (by decide) (by decide) rfl i13
theorem i11 (c : CS) (r : Nat × CS) (h : (r11 c).run = some r) : ∃ it, iterC (stepC E4 400 (loopC E4 11 0) 0 h11 ((.normal, h11) :: x11) s11_p) it c = some r := by
  obtain ⟨nl, n, f, bl, rfl, hb⟩ := r11_inv h
  obtain ⟨hn, hb2⟩ := chkT_run hb
  have hr := hn 1 _ rfl
  have h1 := not_lt (hn 2 _ rfl)
  have h2 := not_gt (hn 3 _ rfl)
  have hn := le_of (hn 0 _ rfl)
  obtain ⟨z, rfl⟩ := Int.eq_ofNat_of_zero_le (show 0 ≤ bl by omega)
  have hr2 := ask_scan hb2; subst hr2
  rw [okGV_eq]
  refine iter_scan (C := fun i => c11 nl n f (z : Int) i) (q := fun i => goodO (z : Int) (opAt f i)) (by simp) (by simp) (fun i hi => ?_) ?_
  · obtain ⟨a, b, ha, hb, la, lb⟩ := rngA_at hr hi
    have e := s11_eq nl n f (z : Int) i
    rw [lt1 hi, ix_, blt_t hi, wrap_i64s (by omega), ha, hb, wu (a := a) (by omega), wu (a := b) (by omega), wu (a := z) (by omega), wadu (a := a) (b := b) (by omega), wi (a := b) (by omega), w8 (a := b) (by omega)] at e
    refine Eq.trans e ?_
    rw [good_eq ha hb, show decide (((a + b : Nat) : Int) > (z : Int)) = decide ((a : Int) + (b : Int) > (z : Int)) from by rw [decide_eq_decide]; omega,
      show ((8 * b : Nat) : Int) = 8 * (b : Int) from by simp]
    cases (f i 1).toB <;> cases decide ((b : Int) < 1) <;> cases decide ((a : Int) + (b : Int) > (z : Int)) <;> cases decide ((f i 5).toI < 0) <;> cases ((f i 6).toI != 0) <;> cases decide ((f i 6).toI ≤ (f i 5).toI) <;> cases (((f i 4).toS.length : Int) != 8 * (b : Int)) <;> rfl
  · have e := s11_eq nl n f (z : Int) n
    rw [lt0] at e
    exact e
theorem q5 : Bm.Good Try.prog E5 := q4.addL (by kernel_rfl) rfl (by decide) (by decide) rfl i11
theorem jG {k : Nat} {π : Plan} (hk : ∀ nl n f bl, callC E5 1500 k 0 .keep [] π (a13 nl n f bl) = cond (decide ((n : Int) > 16)) (some (CS.mk [.bool false] [])) (cond (decide (bl < 1)) (some (CS.mk [.bool false] [])) (cond (decide (bl > 64)) (some (CS.mk [.bool false] [])) (cond (Nat.ble n 1000) (cond (rngV f n) (cond (okGV bl f n) (some (CS.mk [.bool true] [])) (some (CS.mk [.bool false] []))) none) none)))) (c c' : CS) (h : (f13 c).run = some c') : ∃ m pr ros π, callC E5 m k 0 pr ros π c = some c' := by
  obtain ⟨nl, n, f, bl, rfl, hb⟩ := f13_inv h
  obtain ⟨hn, hb2⟩ := chkT_run hb
  have e := hk nl n f bl
  rw [hn 0 _ rfl, okGV_eq] at e
  refine ⟨1500, .keep, [], π, e.trans ?_⟩
  rw [← hb2, gV_eq]
  unfold gF
  by_cases h1 : (n : Int) > 16
  · rw [decide_eq_true h1]; rfl
  · rw [decide_eq_false h1, ble_t (show n ≤ 1000 by omega)]
    cases decide (bl < 1) <;> cases decide (bl > 64) <;> cases okG bl f n <;> rfl
theorem q6 : Bm.Good Try.prog E6 := (q5.addR q5 (by kernel_rfl) (jG k13_eq)).addR q5 (by kernel_rfl) (jG k11_eq)
/-! ### ref.at -/
theorem firstN_spec (q : Nat → Bool) : ∀ m, firstN q m ≤ m ∧ (∀ j, j < firstN q m → q j = false) ∧ (firstN q m < m → q (firstN q m) = true)
  | 0 => ⟨Nat.le_refl _, fun j hj => absurd hj (Nat.not_lt_zero _), fun h => absurd h (Nat.not_lt_zero _)⟩
  | m + 1 => by
    obtain ⟨h1, h2, h3⟩ := firstN_spec q m
    simp only [firstN]
    by_cases h : firstN q m < m
    · rw [blt_t h]
      simp only [cond_true]
      exact ⟨by omega, h2, fun _ => h3 h⟩
    · have hm : firstN q m = m := by omega
      rw [blt_f h]
      simp only [cond_false]
      rw [hm] at h2
      cases hq : q m with
      | true => simp only [cond_true]; exact ⟨by omega, h2, fun _ => hq⟩
      | false =>
        simp only [cond_false]
        refine ⟨Nat.le_refl _, fun j hj => ?_, fun h => absurd h (Nat.lt_irrefl _)⟩
        by_cases hj' : j = m
        · subst hj'; exact hq
        · exact h2 j (by omega)
theorem firstN_is {q : Nat → Bool} {m i : Nat} (hi : i < m) (h : ∀ j, j < i → q j = false) (hq : q i = true) : firstN q m = i := by
  obtain ⟨h1, h2, h3⟩ := firstN_spec q m
  rcases Nat.lt_trichotomy (firstN q m) i with hlt | he | hgt
  · have := h3 (by omega)
    rw [h _ hlt] at this; cases this
  · exact he
  · have := h2 i hgt
    rw [hq] at this; cases this
theorem firstN_none {q : Nat → Bool} {m : Nat} (h : ∀ j, j < m → q j = false) : firstN q m = m := by
  obtain ⟨h1, h2, h3⟩ := firstN_spec q m
  by_cases hl : firstN q m < m
  · have := h3 hl
    rw [h _ hl] at this; cases this
  · omega
theorem i18 (c : CS) (r : Nat × CS) (h : (r18 c).run = some r) : Loops (stepC E6 400 (loopC E6 18 0) 0 h18 ((.normal, h18) :: x18) s18_p) c r.1 r.2 := by
  obtain ⟨ol, m, g, x, rfl, hb⟩ := r18_inv h
  obtain ⟨hn, hb2⟩ := chkT_run hb
  have hn := le_of (hn 0 _ rfl)
  have hr := ask_ret hb2; subst hr
  rw [atV_eq]
  refine Loops.inv (C := fun i => c18 ol m g x i) (fun i => i ≤ m ∧ ∀ j, j < i → ((g j 0).toI == x) = false) (fun i => m - i) (fun _ => (cond (Nat.blt (atF g x m) m) 2 1, cond (Nat.blt (atF g x m) m) ⟨[.int .i64 (atF g x m : Nat)], []⟩ ⟨[], []⟩)) (fun i hi => ?_) 0 ⟨Nat.zero_le _, fun j hj => absurd hj (Nat.not_lt_zero _)⟩
  obtain ⟨h1, h2⟩ := hi
  by_cases h : i = m
  · subst h
    have e := s18_eq ol i g x i
    rw [lt0] at e
    rw [show atF g x i = i from firstN_none h2, blt_f (Nat.lt_irrefl _)]
    exact .inr ⟨_, 0, e, rfl, Seen.refl _⟩
  · have e := s18_eq ol m g x i
    have hi : i < m := by omega
    rw [lt1 hi, ix_, blt_t hi, wrap_i64s (by omega)] at e
    cases hp : ((g i 0).toI == x) with
    | true =>
      rw [hp] at e
      rw [show atF g x m = i from firstN_is hi h2 hp, blt_t hi]
      exact .inr ⟨_, 1, e, rfl, Seen.refl _⟩
    | false =>
      rw [hp] at e
      refine .inl ⟨_, i + 1, e, Seen.refl _, ⟨by omega, fun j hj => ?_⟩, by omega, rfl⟩
      by_cases hj' : j = i
      · subst hj'; exact hp
      · exact h2 j (by omega)
theorem q7 : Bm.Good Try.prog E7 := q6.addS (by kernel_rfl) rfl (by decide) (by decide) rfl i18
theorem j18 (c c' : CS) (h : (f18 c).run = some c') : ∃ m pr ros π, callC E7 m 18 0 pr ros π c = some c' := by
  obtain ⟨ol, m, g, x, rfl, hb⟩ := f18_inv h
  obtain ⟨hn, hb2⟩ := chkT_run hb
  have e := k18_eq ol m g x
  rw [hn 0 _ rfl] at e
  exact ⟨1500, .keep, [], k18_p, e.trans hb2⟩
theorem q8 : Bm.Good Try.prog E8 := q7.addR q7 (by kernel_rfl) j18
/-! ### ref.stands -/
theorem i12a (c : CS) (r : Nat × CS) (h : (r12a c).run = some r) : ∃ it, iterC (stepC E8 400 (loopC E8 12 0) 0 h12a ((.normal, h12a) :: x12a) s12a_p) it c = some r := by
  obtain ⟨nl, n, f, ol, m, g, rfl, hb⟩ := r12a_inv h
  obtain ⟨hn, hb2⟩ := chkT_run hb
  have hm := hn 1 _ rfl
  have hn := le_of (hn 0 _ rfl)
  have hr := ask_scan hb2; subst hr
  rw [okMV_eq]
  refine iter_scan (C := fun i => c12 nl n f ol m g i) (q := fun i => !(mustO (opAt f i) && !(Nat.blt (atF g i m) m))) (by simp) (by simp) (fun i hi => ?_) ?_
  · have e := s12a_eq nl n f ol m g i
    rw [lt1 hi, ix_, blt_t hi, hm, wrap_i64s (by omega), atV_eq] at e
    refine Eq.trans e ?_
    rw [show mustO (opAt f i) = (!((f i 7).toB) && (f i 6).toI != 0) from rfl]
    cases (f i 7).toB <;> cases ((f i 6).toI != 0) <;> cases Nat.blt (atF g i m) m <;> rfl
  · have e := s12a_eq nl n f ol m g n
    rw [lt0] at e
    exact e
theorem q9 : Bm.Good Try.prog E9 := q8.addL (by kernel_rfl) rfl (by decide) (by decide) rfl i12a
theorem inR_of {n : Nat} {x : Int} (h0 : ¬ x < 0) (h1 : ¬ x ≥ (n : Int)) : ∃ t : Nat, x = (t : Int) ∧ t < n := by
  obtain ⟨t, ht⟩ := Int.eq_ofNat_of_zero_le (show 0 ≤ x by omega)
  exact ⟨t, ht, by omega⟩
theorem inR_t {n t : Nat} (h : t < n) : inR n (t : Int) = true := by
  unfold inR
  rw [decide_eq_false (show ¬ (t : Int) < 0 by omega), decide_eq_false (show ¬ (t : Int) ≥ (n : Int) by omega)]; rfl
theorem i12b (c : CS) (r : Nat × CS) (h : (r12b c).run = some r) : ∃ it, iterC (stepC E9 400 (loopC E9 12 2) 0 h12b ((.normal, h12b) :: x12b) s12b_p) it c = some r := by
  obtain ⟨nl, n, f, ol, m, g, rfl, hb⟩ := r12b_inv h
  obtain ⟨hn, hb2⟩ := chkT_run hb
  have hm0 := hn 1 _ rfl
  have hm := le_of hm0
  have hn := le_of (hn 0 _ rfl)
  have hr := ask_scan hb2; subst hr
  rw [okWV_eq]
  refine iter_scan (C := fun i => c12 nl n f ol m g i) (q := fun k => inR n (ordI g k) && Nat.beq (atF g (ordI g k) m) k && mayO (opAt f (ordI g k).toNat)) (by simp) (by simp) (fun i hi => ?_) ?_
  · have e := s12b_eq nl n f ol m g i
    rw [lt1 hi, ix_, blt_t hi, hm0, wrap_i64s (by omega), atV_eq] at e
    refine Eq.trans e ?_
    show _ = cond (inR n (g i 0).toI && Nat.beq (atF g (g i 0).toI m) i && mayO (opAt f (g i 0).toI.toNat)) _ _
    by_cases h0 : (g i 0).toI < 0
    · rw [decide_eq_true h0, show inR n (g i 0).toI = false from by unfold inR; rw [decide_eq_true h0]; rfl]; rfl
    · by_cases h1 : (g i 0).toI ≥ (n : Int)
      · rw [decide_eq_false h0, decide_eq_true h1, show inR n (g i 0).toI = false from by unfold inR; rw [decide_eq_true h1, Bool.not_true, Bool.and_false]]; rfl
      · obtain ⟨t, ht, hlt⟩ := inR_of h0 h1
        have hat := (firstN_spec (fun k => (g k 0).toI == (t : Int)) m).1
        have hself : Nat.blt (atF g (t : Int) m) m = true := by
          by_cases hc : atF g (t : Int) m < m
          · exact blt_t hc
          · have := (firstN_spec (fun k => (g k 0).toI == (t : Int)) m).2.1 i (by have : atF g (t : Int) m = firstN (fun k => (g k 0).toI == (t : Int)) m := rfl; omega)
            simp only [ht, beq_self_eq_true] at this; cases this
        rw [ht, inR_t hlt, decide_eq_false (show ¬ (t : Int) < 0 by omega), decide_eq_false (show ¬ (t : Int) ≥ (n : Int) by omega), hself, decide_eq_true (show 0 ≤ (t : Int) by omega), lt1 hlt, ix_, blt_t hlt, Int.toNat_natCast]
        rw [show (((atF g (t : Int) m : Nat) : Int) != (i : Int)) = !(Nat.beq (atF g (t : Int) m) i) from by
          by_cases hq : atF g (t : Int) m = i
          · rw [hq]; simp
          · rw [show Nat.beq (atF g (t : Int) m) i = false from by rw [Bool.eq_false_iff]; intro h; exact hq (Nat.eq_of_beq_eq_true h)]
            simp only [Bool.not_false, bne_iff_ne]; omega]
        rw [show mayO (opAt f t) = (!((f t 7).toB) && ((f t 1).toB || (f t 6).toI != 0)) from rfl, show ((f t 6).toI == 0) = !((f t 6).toI != 0) from by simp [bne]]
        cases Nat.beq (atF g (t : Int) m) i <;> cases (f t 7).toB <;> cases (f t 1).toB <;> cases ((f t 6).toI != 0) <;> rfl
  · have e := s12b_eq nl n f ol m g m
    rw [lt0] at e
    exact e
theorem qA : Bm.Good Try.prog EA := q9.addL (by kernel_rfl) rfl (by decide) (by decide) rfl i12b
theorem j12 (c c' : CS) (h : (f12 c).run = some c') : ∃ m pr ros π, callC EA m 12 0 pr ros π c = some c' := by
  obtain ⟨nl, n, f, ol, m, g, rfl, hb⟩ := f12_inv h
  obtain ⟨hn, hb2⟩ := chkT_run hb
  have e := k12_eq nl n f ol m g
  rw [hn 0 _ rfl, hn 1 _ rfl] at e
  refine ⟨1500, .keep, [], k12_p, e.trans ?_⟩
  rw [← hb2]
  cases okMV f n g m <;> cases okWV f n g m <;> rfl
theorem qB : Bm.Good Try.prog EB := qA.addR qA (by kernel_rfl) j12
end Go.Proofs.Ytbcilfbdbphjgaa.witnessValid
