/- Part 3 of the texts that YtgflmdjlpjjnaaaLawOnce needs: an abstract machine, and what it reckons. No condition. -/
import Derived.Test.YtgflmdjlpjjnaaaRows
import Derived.Test.YtgflmdjlpjjnaaaBmVk
import Derived.KernelRfl
import Derived.Test.YtgflmdjlpjjnaaaSoB
section
set_option linter.unusedSimpArgs false
set_option linter.unusedVariables false
set_option maxRecDepth 20000
namespace Go.Proofs.Ytgflmdjlpjjnaaa.desk
open Go Go.RowKit Go.Proofs.Ytgflmdjlpjjnaaa.Bm
abbrev shO : List Sh := [.int .i64, .int .u64, .int .u64, .int .u64, .int .u32, .int .u32, .int .i64, .int .u64, .int .u64]
def h4 : Pat := ⟨136, [(7, .keep), (8, .keep), (9, .keep), (42, .asl shO), (43, .keep), (44, .keep)], [pD]⟩
def x4 : List (Ex × Pat) := [(.exit 0, ⟨136, [(7, .keep), (8, .keep), (9, .keep)], [pD]⟩), (.ret, ⟨136, [(6, .keep)], []⟩)]
def c4 (nd : Int) (sf : Int) (wn : Nat) (wf : Nat → Nat → AV) (rd : Int) (hs : AV → Bool) (hf : AV → Nat → AV) (ca : Int) (to : Int) (nl : Bool) (n : Nat) (f : Nat → Nat → AV) (i : Nat) : CS :=
  ⟨[.ptr 0 0, .int .i64 ca, .int .i64 to, .osl nl 1 0 n n 9 true, .int .i64 (n : Nat), .int .i64 (i : Nat)], [some (.cells [.int .i64 nd, .int .i64 sf, .osl false 2 0 wn wn 6 true, .int .u64 rd, .map 3] true), some (.tarr shO n f false), some (.tarr shW wn wf true), some (.omap shI shU false false [.int .u64 0] hs hf true)]⟩
def c4n (nd : Int) (sf : Int) (rd : Int) (hs : AV → Bool) (hf : AV → Nat → AV) (ca : Int) (to : Int) (nl : Bool) (n : Nat) (f : Nat → Nat → AV) (i : Nat) : CS :=
  ⟨[.ptr 0 0, .int .i64 ca, .int .i64 to, .osl nl 1 0 n n 9 true, .int .i64 (n : Nat), .int .i64 (i : Nat)], [some (.cells [.int .i64 nd, .int .i64 sf, .nilSlice, .int .u64 rd, .map 3] true), some (.tarr shO n f false), none, some (.omap shI shU false false [.int .u64 0] hs hf true)]⟩
def fo (f : Nat → Nat → AV) (i j : Nat) : Int := AV.toI (f (0 + Int.toNat (i : Int)) j)
def caF (ca now was : Int) : Int := IntKind.wrap .i64 (ca + if 0 > IntKind.wrap .i64 (now - was) then 0 else IntKind.wrap .i64 (now - was))
def sN (nd sf : Int) (N : Nat) (co : Nat → Nat → AV) (rd : Int) (hs : AV → Bool) (hf : AV → Nat → AV) (ca to : Int) (nl : Bool) (n : Nat) (f : Nat → Nat → AV) (j : Int) : CS :=
  ⟨[.ptr 0 0, .int .i64 ca, .int .i64 to, .osl nl 1 0 n n 9 true, .int .i64 n, .int .i64 j], [some (.cells [.int .i64 nd, .int .i64 sf, .osl false 2 0 N N 6 true, .int .u64 rd, .map 3] true), some (.tarr shO n f false), some (.tarr shW N co true), some (.omap shI shU false false [.int .u64 0] hs hf true)]⟩
def s0 (nd sf : Int) (rd : Int) (hs : AV → Bool) (hf : AV → Nat → AV) (ca to : Int) (nl : Bool) (n : Nat) (f : Nat → Nat → AV) (j : Int) : CS :=
  ⟨[.ptr 0 0, .int .i64 ca, .int .i64 to, .osl nl 1 0 n n 9 true, .int .i64 n, .int .i64 j], [some (.cells [.int .i64 nd, .int .i64 sf, .osl true 2 0 0 0 6 true, .int .u64 rd, .map 3] true), some (.tarr shO n f false), some (.tarr shW 0 (fun _ _ => .bad) true), some (.omap shI shU false false [.int .u64 0] hs hf true)]⟩
def bd : Nat → Nat → AV := fun _ _ => .bad
noncomputable def s4e (nd : Int) (sf : Int) (wn : Nat) (wf : Nat → Nat → AV) (rd : Int) (hs : AV → Bool) (hf : AV → Nat → AV) (ca : Int) (to : Int) (nl : Bool) (n : Nat) (f : Nat → Nat → AV) (i : Nat) (π : Plan) : Option (Nat × CS) := stepC (FA) (600) (loopC FA 4 0) (0) (h4) ((.normal, h4) :: x4) π (c4 nd sf wn wf rd hs hf ca to nl n f i)
def s4e_p : Plan := (.must false .stop)
theorem s4e_is (nd : Int) (sf : Int) (wn : Nat) (wf : Nat → Nat → AV) (rd : Int) (hs : AV → Bool) (hf : AV → Nat → AV) (ca : Int) (to : Int) (nl : Bool) (n : Nat) (f : Nat → Nat → AV) (i : Nat) : s4e nd sf wn wf rd hs hf ca to nl n f i s4e_p = (cond (decide ((↑i : Int) < (↑n : Int))) none (some (1, (CS.mk [(AV.ptr (0) (0)), (.int .i64 (ca)), (.int .i64 (to))] [some (AObj.cells [(.int .i64 (nd)), (.int .i64 (sf)), (AV.osl (false) (1) (0) (wn) (wn) (6) (true)), (.int .u64 (rd)), (AV.map (2))] true), some (AObj.tarr shW (wn) wf true), some (AObj.omap shI shU false false [(.int .u64 (0))] hs hf true)])))) := by kernel_rfl
theorem s4e_eq (nd : Int) (sf : Int) (wn : Nat) (wf : Nat → Nat → AV) (rd : Int) (hs : AV → Bool) (hf : AV → Nat → AV) (ca : Int) (to : Int) (nl : Bool) (n : Nat) (f : Nat → Nat → AV) (i : Nat) (hy0 : (decide ((↑i : Int) < (↑n : Int))) = false) : s4e nd sf wn wf rd hs hf ca to nl n f i s4e_p = (some (1, (CS.mk [(AV.ptr (0) (0)), (.int .i64 (ca)), (.int .i64 (to))] [some (AObj.cells [(.int .i64 (nd)), (.int .i64 (sf)), (AV.osl (false) (1) (0) (wn) (wn) (6) (true)), (.int .u64 (rd)), (AV.map (2))] true), some (AObj.tarr shW (wn) wf true), some (AObj.omap shI shU false false [(.int .u64 (0))] hs hf true)]))) := by
  rw [s4e_is]
  try simp only [hy0, eq_self, decide_true, beq_self_eq_true, Nat.beq_refl, ble_self, Int.le_refl, Nat.le_refl]
  rfl
noncomputable def s4k0 (nd : Int) (sf : Int) (wn : Nat) (wf : Nat → Nat → AV) (rd : Int) (hs : AV → Bool) (hf : AV → Nat → AV) (ca : Int) (to : Int) (nl : Bool) (n : Nat) (f : Nat → Nat → AV) (i : Nat) (π : Plan) : Option (Nat × CS) := stepC (FA) (600) (loopC FA 4 0) (0) (h4) ((.normal, h4) :: x4) π (c4 nd sf wn wf rd hs hf ca to nl n f i)
def s4k0_p : Plan := (.must true (.reck 1 (.must true (.must true (.must true (.reck 1 (.must true (.reck 3 (.must true (.reck 1 (.must true (.must true (.reck 1 (.must true (.reck 3 (.must true (.must true (.must true (.reck 1 (.fork (.reck 2 (.must true (.reck 1 (.must true (.reck 3 (.must true (.reck 1 (.must true (.must true (.must true (.must false (.must false (.fork (.must true (.must true (.must true (.must false (.fork .stop .stop))))) (.must false (.must false (.must false (.must true .stop))))))))))))))))) (.fork (.reck 2 (.must true (.reck 1 (.must true (.reck 3 (.must true (.reck 1 (.must true (.must true (.must true (.must false (.must false (.fork (.must true (.must true (.must true (.must false (.fork .stop .stop))))) (.must false (.must false (.must false (.must true .stop))))))))))))))))) (.fork (.reck 2 (.must true (.reck 1 (.must true (.reck 3 (.must true (.reck 1 (.must true (.must true (.must true (.must false (.must false (.fork (.must true (.must true (.must true (.must false (.fork .stop .stop))))) (.must false (.must false (.must false (.must true .stop))))))))))))))))) (.reck 1 (.must true (.reck 1 (.must true (.reck 3 (.fork (.reck 1 (.must true (.must true (.must true (.must false (.must false (.fork (.must true (.must true (.must true (.must false (.fork .stop .stop))))) (.must false (.must false (.must false (.must true .stop))))))))))) .stop))))))))))))))))))))))))))))
theorem s4k0_is (nd : Int) (sf : Int) (wn : Nat) (wf : Nat → Nat → AV) (rd : Int) (hs : AV → Bool) (hf : AV → Nat → AV) (ca : Int) (to : Int) (nl : Bool) (n : Nat) (f : Nat → Nat → AV) (i : Nat) : s4k0 nd sf wn wf rd hs hf ca to nl n f i s4k0_p = (cond (decide ((↑i : Int) < (↑n : Int))) (cond (decide ((↑i : Int) < (↑n : Int))) (cond (Nat.blt (0 + Int.toNat (↑i : Int)) n) (cond (decide (wn = wn)) (cond (decide (wn = wn)) (cond (Nat.ble wn 1000) (cond (fo f i 0 == 0) (cond (decide (wn = wn)) (cond (decide (wn = wn)) (cond (decide (1 ≤ nd)) (cond (decide (nd ≤ 7)) (cond (Nat.ble wn 1000) (cond (fo f i 3 == 0)
  (cond (decide (wn = wn)) (cond (decide (wn = wn)) (cond (Nat.ble wn 1000) (cond (decide (fo f i 0 > 1) == false) (cond (decide (fo f i 0 > 1) == false) (cond (decide (fo f i 0 > 1) == false) (cond (decide (fo f i 0 > 1)) none (cond (decide (fo f i 0 < 0)) none (cond (decide ((↑wn : Int) > IntKind.wrap .i64 ((↑wn : Int) + 1)) == false)
  (cond (decide ((↑wn : Int) > IntKind.wrap .i64 ((↑wn : Int) + 1)) == false) (cond (decide ((↑wn : Int) > IntKind.wrap .i64 ((↑wn : Int) + 1)) == false) (cond (decide ((↑wn : Int) > IntKind.wrap .i64 ((↑wn : Int) + 1)) == false) (cond (decide ((↑wn : Int) > IntKind.wrap .i64 ((↑wn : Int) + 1))) none (cond (decide ((↑wn : Int) < IntKind.wrap .i64 ((↑wn : Int) - 1)))
  (some (2, (CS.mk [(AV.bool (false))] [])))
  (some (0, (sN nd sf wn wf rd hs hf (caF ca (↑wn : Int) (↑wn : Int)) (IntKind.wrap .i64 (to + 0)) nl n f (IntKind.wrap .i64 ((↑i : Int) + 1))))))) none) none) none)
  (cond (decide ((↑wn : Int) > IntKind.wrap .i64 ((↑wn : Int) + 1)) == false) none (cond (decide ((↑wn : Int) > IntKind.wrap .i64 ((↑wn : Int) + 1)) == false) none (cond (decide ((↑wn : Int) > IntKind.wrap .i64 ((↑wn : Int) + 1)) == false) none (cond (decide ((↑wn : Int) > IntKind.wrap .i64 ((↑wn : Int) + 1))) (some (2, (CS.mk [(AV.bool (false))] []))) none))))))) none) none) none) none) none) none)
  (cond (Nat.blt (idxV (qdV (fo f i 1) (fo f i 2)) wf wn) wn)
  (cond (decide (wn = wn)) (cond (decide (wn = wn)) (cond (Nat.ble wn 1000) (cond (decide (fo f i 0 > 1) == false) (cond (decide (fo f i 0 > 1) == false) (cond (decide (fo f i 0 > 1) == false) (cond (decide (fo f i 0 > 1)) none (cond (decide (fo f i 0 < 0)) none (cond (decide ((↑wn : Int) > IntKind.wrap .i64 ((↑wn : Int) + 1)) == false)
  (cond (decide ((↑wn : Int) > IntKind.wrap .i64 ((↑wn : Int) + 1)) == false) (cond (decide ((↑wn : Int) > IntKind.wrap .i64 ((↑wn : Int) + 1)) == false) (cond (decide ((↑wn : Int) > IntKind.wrap .i64 ((↑wn : Int) + 1)) == false) (cond (decide ((↑wn : Int) > IntKind.wrap .i64 ((↑wn : Int) + 1))) none (cond (decide ((↑wn : Int) < IntKind.wrap .i64 ((↑wn : Int) - 1)))
  (some (2, (CS.mk [(AV.bool (false))] [])))
  (some (0, (sN nd sf wn wf rd hs hf (caF ca (↑wn : Int) (↑wn : Int)) (IntKind.wrap .i64 (to + 0)) nl n f (IntKind.wrap .i64 ((↑i : Int) + 1))))))) none) none) none)
  (cond (decide ((↑wn : Int) > IntKind.wrap .i64 ((↑wn : Int) + 1)) == false) none (cond (decide ((↑wn : Int) > IntKind.wrap .i64 ((↑wn : Int) + 1)) == false) none (cond (decide ((↑wn : Int) > IntKind.wrap .i64 ((↑wn : Int) + 1)) == false) none (cond (decide ((↑wn : Int) > IntKind.wrap .i64 ((↑wn : Int) + 1))) (some (2, (CS.mk [(AV.bool (false))] []))) none))))))) none) none) none) none) none) none)
  (cond (Nat.ble 64 wn)
  (cond (decide (wn = wn)) (cond (decide (wn = wn)) (cond (Nat.ble wn 1000) (cond (decide (fo f i 0 > 1) == false) (cond (decide (fo f i 0 > 1) == false) (cond (decide (fo f i 0 > 1) == false) (cond (decide (fo f i 0 > 1)) none (cond (decide (fo f i 0 < 0)) none (cond (decide ((↑wn : Int) > IntKind.wrap .i64 ((↑wn : Int) + 1)) == false)
  (cond (decide ((↑wn : Int) > IntKind.wrap .i64 ((↑wn : Int) + 1)) == false) (cond (decide ((↑wn : Int) > IntKind.wrap .i64 ((↑wn : Int) + 1)) == false) (cond (decide ((↑wn : Int) > IntKind.wrap .i64 ((↑wn : Int) + 1)) == false) (cond (decide ((↑wn : Int) > IntKind.wrap .i64 ((↑wn : Int) + 1))) none (cond (decide ((↑wn : Int) < IntKind.wrap .i64 ((↑wn : Int) - 1)))
  (some (2, (CS.mk [(AV.bool (false))] [])))
  (some (0, (sN nd sf wn wf rd hs hf (caF ca (↑wn : Int) (↑wn : Int)) (IntKind.wrap .i64 (to + 0)) nl n f (IntKind.wrap .i64 ((↑i : Int) + 1))))))) none) none) none)
  (cond (decide ((↑wn : Int) > IntKind.wrap .i64 ((↑wn : Int) + 1)) == false) none (cond (decide ((↑wn : Int) > IntKind.wrap .i64 ((↑wn : Int) + 1)) == false) none (cond (decide ((↑wn : Int) > IntKind.wrap .i64 ((↑wn : Int) + 1)) == false) none (cond (decide ((↑wn : Int) > IntKind.wrap .i64 ((↑wn : Int) + 1))) (some (2, (CS.mk [(AV.bool (false))] []))) none))))))) none) none) none) none) none) none)
  (cond (decide (List.length (apdV (rdW wf wn) ⟨fo f i 1, fo f i 2, fo f i 3, 0, 0, 0⟩) = List.length (apdV (rdW wf wn) ⟨fo f i 1, fo f i 2, fo f i 3, 0, 0, 0⟩))) (cond (decide (List.length (apdV (rdW wf wn) ⟨fo f i 1, fo f i 2, fo f i 3, 0, 0, 0⟩) = List.length (apdV (rdW wf wn) ⟨fo f i 1, fo f i 2, fo f i 3, 0, 0, 0⟩))) (cond (Nat.ble (List.length (apdV (rdW wf wn) ⟨fo f i 1, fo f i 2, fo f i 3, 0, 0, 0⟩)) 1000)
  (cond (decide (fo f i 0 > 1) == false) (cond (decide (fo f i 0 > 1) == false) (cond (decide (fo f i 0 > 1) == false) (cond (decide (fo f i 0 > 1)) none (cond (decide (fo f i 0 < 0)) none (cond (decide ((↑(List.length (apdV (rdW wf wn) ⟨fo f i 1, fo f i 2, fo f i 3, 0, 0, 0⟩)) : Int) > IntKind.wrap .i64 ((↑wn : Int) + 1)) == false)
  (cond (decide ((↑(List.length (apdV (rdW wf wn) ⟨fo f i 1, fo f i 2, fo f i 3, 0, 0, 0⟩)) : Int) > IntKind.wrap .i64 ((↑wn : Int) + 1)) == false) (cond (decide ((↑(List.length (apdV (rdW wf wn) ⟨fo f i 1, fo f i 2, fo f i 3, 0, 0, 0⟩)) : Int) > IntKind.wrap .i64 ((↑wn : Int) + 1)) == false) (cond (decide ((↑(List.length (apdV (rdW wf wn) ⟨fo f i 1, fo f i 2, fo f i 3, 0, 0, 0⟩)) : Int) > IntKind.wrap .i64 ((↑wn : Int) + 1)) == false) (cond (decide ((↑(List.length (apdV (rdW wf wn) ⟨fo f i 1, fo f i 2, fo f i 3, 0, 0, 0⟩)) : Int) > IntKind.wrap .i64 ((↑wn : Int) + 1))) none (cond (decide ((↑(List.length (apdV (rdW wf wn) ⟨fo f i 1, fo f i 2, fo f i 3, 0, 0, 0⟩)) : Int) < IntKind.wrap .i64 ((↑wn : Int) - 1)))
  (some (2, (CS.mk [(AV.bool (false))] [])))
  (some (0, (sN nd sf (List.length (apdV (rdW wf wn) ⟨fo f i 1, fo f i 2, fo f i 3, 0, 0, 0⟩)) (finW (apdV (rdW wf wn) ⟨fo f i 1, fo f i 2, fo f i 3, 0, 0, 0⟩)) rd hs hf (caF ca (↑(List.length (apdV (rdW wf wn) ⟨fo f i 1, fo f i 2, fo f i 3, 0, 0, 0⟩)) : Int) (↑wn : Int)) (IntKind.wrap .i64 (to + 0)) nl n f (IntKind.wrap .i64 ((↑i : Int) + 1))))))) none) none) none)
  (cond (decide ((↑(List.length (apdV (rdW wf wn) ⟨fo f i 1, fo f i 2, fo f i 3, 0, 0, 0⟩)) : Int) > IntKind.wrap .i64 ((↑wn : Int) + 1)) == false) none (cond (decide ((↑(List.length (apdV (rdW wf wn) ⟨fo f i 1, fo f i 2, fo f i 3, 0, 0, 0⟩)) : Int) > IntKind.wrap .i64 ((↑wn : Int) + 1)) == false) none (cond (decide ((↑(List.length (apdV (rdW wf wn) ⟨fo f i 1, fo f i 2, fo f i 3, 0, 0, 0⟩)) : Int) > IntKind.wrap .i64 ((↑wn : Int) + 1)) == false) none (cond (decide ((↑(List.length (apdV (rdW wf wn) ⟨fo f i 1, fo f i 2, fo f i 3, 0, 0, 0⟩)) : Int) > IntKind.wrap .i64 ((↑wn : Int) + 1))) (some (2, (CS.mk [(AV.bool (false))] []))) none))))))) none) none) none)
  none) none) none)))) none) none) none) none) none) none) none) none) none) none) none) none) := by kernel_rfl
theorem s4k0_eq (nd : Int) (sf : Int) (wn : Nat) (wf : Nat → Nat → AV) (rd : Int) (hs : AV → Bool) (hf : AV → Nat → AV) (ca : Int) (to : Int) (nl : Bool) (n : Nat) (f : Nat → Nat → AV) (i : Nat) (hy0 : (decide ((↑i : Int) < (↑n : Int))) = true) (hy1 : (Nat.blt (0 + Int.toNat (↑i : Int)) n) = true) (hy2 : (decide (1 ≤ nd)) = true) (hy3 : (decide (nd ≤ 7)) = true) (hy4 : (Nat.ble wn 1000) = true) (hy5 : (fo f i 0 == 0) = true) (hy6 : (decide (fo f i 0 > 1)) = false) (hy7 : (decide (fo f i 0 < 0)) = false) : s4k0 nd sf wn wf rd hs hf ca to nl n f i s4k0_p = (cond (fo f i 3 == 0)
  (cond (decide ((↑wn : Int) > IntKind.wrap .i64 ((↑wn : Int) + 1)))
  (some (2, (CS.mk [(AV.bool (false))] [])))
  (cond (decide ((↑wn : Int) < IntKind.wrap .i64 ((↑wn : Int) - 1)))
  (some (2, (CS.mk [(AV.bool (false))] [])))
  (some (0, (sN nd sf wn wf rd hs hf (caF ca (↑wn : Int) (↑wn : Int)) (IntKind.wrap .i64 (to + 0)) nl n f (IntKind.wrap .i64 ((↑i : Int) + 1)))))))
  (cond (Nat.blt (idxV (qdV (fo f i 1) (fo f i 2)) wf wn) wn)
  (cond (decide ((↑wn : Int) > IntKind.wrap .i64 ((↑wn : Int) + 1)))
  (some (2, (CS.mk [(AV.bool (false))] [])))
  (cond (decide ((↑wn : Int) < IntKind.wrap .i64 ((↑wn : Int) - 1)))
  (some (2, (CS.mk [(AV.bool (false))] [])))
  (some (0, (sN nd sf wn wf rd hs hf (caF ca (↑wn : Int) (↑wn : Int)) (IntKind.wrap .i64 (to + 0)) nl n f (IntKind.wrap .i64 ((↑i : Int) + 1)))))))
  (cond (Nat.ble 64 wn)
  (cond (decide ((↑wn : Int) > IntKind.wrap .i64 ((↑wn : Int) + 1)))
  (some (2, (CS.mk [(AV.bool (false))] [])))
  (cond (decide ((↑wn : Int) < IntKind.wrap .i64 ((↑wn : Int) - 1)))
  (some (2, (CS.mk [(AV.bool (false))] [])))
  (some (0, (sN nd sf wn wf rd hs hf (caF ca (↑wn : Int) (↑wn : Int)) (IntKind.wrap .i64 (to + 0)) nl n f (IntKind.wrap .i64 ((↑i : Int) + 1)))))))
  (cond (Nat.ble (List.length (apdV (rdW wf wn) ⟨fo f i 1, fo f i 2, fo f i 3, 0, 0, 0⟩)) 1000)
  (cond (decide ((↑(List.length (apdV (rdW wf wn) ⟨fo f i 1, fo f i 2, fo f i 3, 0, 0, 0⟩)) : Int) > IntKind.wrap .i64 ((↑wn : Int) + 1)))
  (some (2, (CS.mk [(AV.bool (false))] [])))
  (cond (decide ((↑(List.length (apdV (rdW wf wn) ⟨fo f i 1, fo f i 2, fo f i 3, 0, 0, 0⟩)) : Int) < IntKind.wrap .i64 ((↑wn : Int) - 1)))
  (some (2, (CS.mk [(AV.bool (false))] [])))
  (some (0, (sN nd sf (List.length (apdV (rdW wf wn) ⟨fo f i 1, fo f i 2, fo f i 3, 0, 0, 0⟩)) (finW (apdV (rdW wf wn) ⟨fo f i 1, fo f i 2, fo f i 3, 0, 0, 0⟩)) rd hs hf (caF ca (↑(List.length (apdV (rdW wf wn) ⟨fo f i 1, fo f i 2, fo f i 3, 0, 0, 0⟩)) : Int) (↑wn : Int)) (IntKind.wrap .i64 (to + 0)) nl n f (IntKind.wrap .i64 ((↑i : Int) + 1)))))))
  none)))) := by
  rw [s4k0_is]
  try simp only [hy0, hy1, hy2, hy3, hy4, hy5, hy6, hy7, eq_self, decide_true, beq_self_eq_true, Nat.beq_refl, ble_self, Int.le_refl, Nat.le_refl]
  cases (fo f i 3 == 0) with
  | true =>
    cases (decide ((↑wn : Int) > IntKind.wrap .i64 ((↑wn : Int) + 1))) with
    | true =>
      rfl
    | false =>
      cases (decide ((↑wn : Int) < IntKind.wrap .i64 ((↑wn : Int) - 1))) with
      | true =>
        rfl
      | false =>
        rfl
  | false =>
    cases (Nat.blt (idxV (qdV (fo f i 1) (fo f i 2)) wf wn) wn) with
    | true =>
      cases (decide ((↑wn : Int) > IntKind.wrap .i64 ((↑wn : Int) + 1))) with
      | true =>
        rfl
      | false =>
        cases (decide ((↑wn : Int) < IntKind.wrap .i64 ((↑wn : Int) - 1))) with
        | true =>
          rfl
        | false =>
          rfl
    | false =>
      cases (Nat.ble 64 wn) with
      | true =>
        cases (decide ((↑wn : Int) > IntKind.wrap .i64 ((↑wn : Int) + 1))) with
        | true =>
          rfl
        | false =>
          cases (decide ((↑wn : Int) < IntKind.wrap .i64 ((↑wn : Int) - 1))) with
          | true =>
            rfl
          | false =>
            rfl
      | false =>
        cases (Nat.ble (List.length (apdV (rdW wf wn) ⟨fo f i 1, fo f i 2, fo f i 3, 0, 0, 0⟩)) 1000) with
        | true =>
          cases (decide ((↑(List.length (apdV (rdW wf wn) ⟨fo f i 1, fo f i 2, fo f i 3, 0, 0, 0⟩)) : Int) > IntKind.wrap .i64 ((↑wn : Int) + 1))) with
          | true =>
            rfl
          | false =>
            cases (decide ((↑(List.length (apdV (rdW wf wn) ⟨fo f i 1, fo f i 2, fo f i 3, 0, 0, 0⟩)) : Int) < IntKind.wrap .i64 ((↑wn : Int) - 1))) with
            | true =>
              rfl
            | false =>
              rfl
        | false =>
          rfl
noncomputable def s4k1 (nd : Int) (sf : Int) (wn : Nat) (wf : Nat → Nat → AV) (rd : Int) (hs : AV → Bool) (hf : AV → Nat → AV) (ca : Int) (to : Int) (nl : Bool) (n : Nat) (f : Nat → Nat → AV) (i : Nat) (π : Plan) : Option (Nat × CS) := stepC (FA) (600) (loopC FA 4 0) (0) (h4) ((.normal, h4) :: x4) π (c4 nd sf wn wf rd hs hf ca to nl n f i)
def s4k1_p : Plan := (.must true (.reck 1 (.must true (.must true (.must true (.reck 1 (.must true (.reck 3 (.must true (.reck 1 (.must false (.must true (.must true (.reck 1 (.must true (.reck 3 (.must true (.must true (.must true (.reck 1 (.fork (.reck 1 (.must true (.reck 1 (.must true (.reck 3 (.fork (.reck 1 (.must true (.must true (.must true (.must false (.must false (.fork (.must true (.must true (.must true (.must false (.fork .stop .stop))))) (.must false (.must false (.must false (.must true .stop))))))))))) .stop)))))) (.reck 1 (.must true (.reck 1 (.must true (.reck 3 (.fork (.reck 1 (.must true (.must true (.must true (.must false (.must false (.fork (.must true (.must true (.must true (.must false (.fork .stop .stop))))) (.must false (.must false (.must false (.must true .stop))))))))))) .stop)))))))))))))))))))))))))))
theorem s4k1_is (nd : Int) (sf : Int) (wn : Nat) (wf : Nat → Nat → AV) (rd : Int) (hs : AV → Bool) (hf : AV → Nat → AV) (ca : Int) (to : Int) (nl : Bool) (n : Nat) (f : Nat → Nat → AV) (i : Nat) : s4k1 nd sf wn wf rd hs hf ca to nl n f i s4k1_p = (cond (decide ((↑i : Int) < (↑n : Int))) (cond (decide ((↑i : Int) < (↑n : Int))) (cond (Nat.blt (0 + Int.toNat (↑i : Int)) n) (cond (decide (wn = wn)) (cond (decide (wn = wn)) (cond (Nat.ble wn 1000) (cond (fo f i 0 == 0) none (cond (fo f i 0 == 1) (cond (decide (wn = wn)) (cond (decide (wn = wn)) (cond (decide (1 ≤ nd)) (cond (decide (nd ≤ 7)) (cond (Nat.ble wn 1000) (cond (Nat.ble 64 (List.length (outV (fun x => !qaV (fo f i 1) (fo f i 2) x) wf wn)))
  (cond (decide (List.length (outV (fun x => !qaV (fo f i 1) (fo f i 2) x) wf wn) = List.length (outV (fun x => !qaV (fo f i 1) (fo f i 2) x) wf wn))) (cond (decide (List.length (outV (fun x => !qaV (fo f i 1) (fo f i 2) x) wf wn) = List.length (outV (fun x => !qaV (fo f i 1) (fo f i 2) x) wf wn))) (cond (Nat.ble (List.length (outV (fun x => !qaV (fo f i 1) (fo f i 2) x) wf wn)) 1000)
  (cond (decide (fo f i 0 > 1) == false) (cond (decide (fo f i 0 > 1) == false) (cond (decide (fo f i 0 > 1) == false) (cond (decide (fo f i 0 > 1)) none (cond (decide (fo f i 0 < 0)) none (cond (decide ((↑(List.length (outV (fun x => !qaV (fo f i 1) (fo f i 2) x) wf wn)) : Int) > IntKind.wrap .i64 ((↑wn : Int) + 1)) == false)
  (cond (decide ((↑(List.length (outV (fun x => !qaV (fo f i 1) (fo f i 2) x) wf wn)) : Int) > IntKind.wrap .i64 ((↑wn : Int) + 1)) == false) (cond (decide ((↑(List.length (outV (fun x => !qaV (fo f i 1) (fo f i 2) x) wf wn)) : Int) > IntKind.wrap .i64 ((↑wn : Int) + 1)) == false) (cond (decide ((↑(List.length (outV (fun x => !qaV (fo f i 1) (fo f i 2) x) wf wn)) : Int) > IntKind.wrap .i64 ((↑wn : Int) + 1)) == false) (cond (decide ((↑(List.length (outV (fun x => !qaV (fo f i 1) (fo f i 2) x) wf wn)) : Int) > IntKind.wrap .i64 ((↑wn : Int) + 1))) none (cond (decide ((↑(List.length (outV (fun x => !qaV (fo f i 1) (fo f i 2) x) wf wn)) : Int) < IntKind.wrap .i64 ((↑wn : Int) - 1)))
  (some (2, (CS.mk [(AV.bool (false))] [])))
  (some (0, (sN nd sf (List.length (outV (fun x => !qaV (fo f i 1) (fo f i 2) x) wf wn)) (finW ((outV (fun x => !qaV (fo f i 1) (fo f i 2) x) wf (wn)))) rd hs hf (caF ca (↑(List.length (outV (fun x => !qaV (fo f i 1) (fo f i 2) x) wf wn)) : Int) (↑wn : Int)) (IntKind.wrap .i64 (to + 0)) nl n f (IntKind.wrap .i64 ((↑i : Int) + 1))))))) none) none) none)
  (cond (decide ((↑(List.length (outV (fun x => !qaV (fo f i 1) (fo f i 2) x) wf wn)) : Int) > IntKind.wrap .i64 ((↑wn : Int) + 1)) == false) none (cond (decide ((↑(List.length (outV (fun x => !qaV (fo f i 1) (fo f i 2) x) wf wn)) : Int) > IntKind.wrap .i64 ((↑wn : Int) + 1)) == false) none (cond (decide ((↑(List.length (outV (fun x => !qaV (fo f i 1) (fo f i 2) x) wf wn)) : Int) > IntKind.wrap .i64 ((↑wn : Int) + 1)) == false) none (cond (decide ((↑(List.length (outV (fun x => !qaV (fo f i 1) (fo f i 2) x) wf wn)) : Int) > IntKind.wrap .i64 ((↑wn : Int) + 1))) (some (2, (CS.mk [(AV.bool (false))] []))) none))))))) none) none) none)
  none) none) none)
  (cond (decide (List.length (apdV (outV (fun x => !qaV (fo f i 1) (fo f i 2) x) wf wn) ⟨fo f i 1, fo f i 2, 0, fo f i 4, fo f i 5, IntKind.wrap .u64 (rd + 1)⟩) = List.length (apdV (outV (fun x => !qaV (fo f i 1) (fo f i 2) x) wf wn) ⟨fo f i 1, fo f i 2, 0, fo f i 4, fo f i 5, IntKind.wrap .u64 (rd + 1)⟩))) (cond (decide (List.length (apdV (outV (fun x => !qaV (fo f i 1) (fo f i 2) x) wf wn) ⟨fo f i 1, fo f i 2, 0, fo f i 4, fo f i 5, IntKind.wrap .u64 (rd + 1)⟩) = List.length (apdV (outV (fun x => !qaV (fo f i 1) (fo f i 2) x) wf wn) ⟨fo f i 1, fo f i 2, 0, fo f i 4, fo f i 5, IntKind.wrap .u64 (rd + 1)⟩))) (cond (Nat.ble (List.length (apdV (outV (fun x => !qaV (fo f i 1) (fo f i 2) x) wf wn) ⟨fo f i 1, fo f i 2, 0, fo f i 4, fo f i 5, IntKind.wrap .u64 (rd + 1)⟩)) 1000)
  (cond (decide (fo f i 0 > 1) == false) (cond (decide (fo f i 0 > 1) == false) (cond (decide (fo f i 0 > 1) == false) (cond (decide (fo f i 0 > 1)) none (cond (decide (fo f i 0 < 0)) none (cond (decide ((↑(List.length (apdV (outV (fun x => !qaV (fo f i 1) (fo f i 2) x) wf wn) ⟨fo f i 1, fo f i 2, 0, fo f i 4, fo f i 5, IntKind.wrap .u64 (rd + 1)⟩)) : Int) > IntKind.wrap .i64 ((↑wn : Int) + 1)) == false)
  (cond (decide ((↑(List.length (apdV (outV (fun x => !qaV (fo f i 1) (fo f i 2) x) wf wn) ⟨fo f i 1, fo f i 2, 0, fo f i 4, fo f i 5, IntKind.wrap .u64 (rd + 1)⟩)) : Int) > IntKind.wrap .i64 ((↑wn : Int) + 1)) == false) (cond (decide ((↑(List.length (apdV (outV (fun x => !qaV (fo f i 1) (fo f i 2) x) wf wn) ⟨fo f i 1, fo f i 2, 0, fo f i 4, fo f i 5, IntKind.wrap .u64 (rd + 1)⟩)) : Int) > IntKind.wrap .i64 ((↑wn : Int) + 1)) == false) (cond (decide ((↑(List.length (apdV (outV (fun x => !qaV (fo f i 1) (fo f i 2) x) wf wn) ⟨fo f i 1, fo f i 2, 0, fo f i 4, fo f i 5, IntKind.wrap .u64 (rd + 1)⟩)) : Int) > IntKind.wrap .i64 ((↑wn : Int) + 1)) == false) (cond (decide ((↑(List.length (apdV (outV (fun x => !qaV (fo f i 1) (fo f i 2) x) wf wn) ⟨fo f i 1, fo f i 2, 0, fo f i 4, fo f i 5, IntKind.wrap .u64 (rd + 1)⟩)) : Int) > IntKind.wrap .i64 ((↑wn : Int) + 1))) none (cond (decide ((↑(List.length (apdV (outV (fun x => !qaV (fo f i 1) (fo f i 2) x) wf wn) ⟨fo f i 1, fo f i 2, 0, fo f i 4, fo f i 5, IntKind.wrap .u64 (rd + 1)⟩)) : Int) < IntKind.wrap .i64 ((↑wn : Int) - 1)))
  (some (2, (CS.mk [(AV.bool (false))] [])))
  (some (0, (sN nd sf (List.length (apdV (outV (fun x => !qaV (fo f i 1) (fo f i 2) x) wf wn) ⟨fo f i 1, fo f i 2, 0, fo f i 4, fo f i 5, IntKind.wrap .u64 (rd + 1)⟩)) (finW (apdV (outV (fun x => !qaV (fo f i 1) (fo f i 2) x) wf wn) ⟨fo f i 1, fo f i 2, 0, fo f i 4, fo f i 5, IntKind.wrap .u64 (rd + 1)⟩)) (IntKind.wrap .u64 (rd + 1)) hs hf (caF ca (↑(List.length (apdV (outV (fun x => !qaV (fo f i 1) (fo f i 2) x) wf wn) ⟨fo f i 1, fo f i 2, 0, fo f i 4, fo f i 5, IntKind.wrap .u64 (rd + 1)⟩)) : Int) (↑wn : Int)) (IntKind.wrap .i64 (to + 0)) nl n f (IntKind.wrap .i64 ((↑i : Int) + 1))))))) none) none) none)
  (cond (decide ((↑(List.length (apdV (outV (fun x => !qaV (fo f i 1) (fo f i 2) x) wf wn) ⟨fo f i 1, fo f i 2, 0, fo f i 4, fo f i 5, IntKind.wrap .u64 (rd + 1)⟩)) : Int) > IntKind.wrap .i64 ((↑wn : Int) + 1)) == false) none (cond (decide ((↑(List.length (apdV (outV (fun x => !qaV (fo f i 1) (fo f i 2) x) wf wn) ⟨fo f i 1, fo f i 2, 0, fo f i 4, fo f i 5, IntKind.wrap .u64 (rd + 1)⟩)) : Int) > IntKind.wrap .i64 ((↑wn : Int) + 1)) == false) none (cond (decide ((↑(List.length (apdV (outV (fun x => !qaV (fo f i 1) (fo f i 2) x) wf wn) ⟨fo f i 1, fo f i 2, 0, fo f i 4, fo f i 5, IntKind.wrap .u64 (rd + 1)⟩)) : Int) > IntKind.wrap .i64 ((↑wn : Int) + 1)) == false) none (cond (decide ((↑(List.length (apdV (outV (fun x => !qaV (fo f i 1) (fo f i 2) x) wf wn) ⟨fo f i 1, fo f i 2, 0, fo f i 4, fo f i 5, IntKind.wrap .u64 (rd + 1)⟩)) : Int) > IntKind.wrap .i64 ((↑wn : Int) + 1))) (some (2, (CS.mk [(AV.bool (false))] []))) none))))))) none) none) none)
  none) none) none)) none) none) none) none) none) none)) none) none) none) none) none) none) := by kernel_rfl
theorem s4k1_eq (nd : Int) (sf : Int) (wn : Nat) (wf : Nat → Nat → AV) (rd : Int) (hs : AV → Bool) (hf : AV → Nat → AV) (ca : Int) (to : Int) (nl : Bool) (n : Nat) (f : Nat → Nat → AV) (i : Nat) (hy0 : (decide ((↑i : Int) < (↑n : Int))) = true) (hy1 : (Nat.blt (0 + Int.toNat (↑i : Int)) n) = true) (hy2 : (decide (1 ≤ nd)) = true) (hy3 : (decide (nd ≤ 7)) = true) (hy4 : (Nat.ble wn 1000) = true) (hy5 : (fo f i 0 == 0) = false) (hy6 : (fo f i 0 == 1) = true) (hy7 : (decide (fo f i 0 > 1)) = false) (hy8 : (decide (fo f i 0 < 0)) = false) : s4k1 nd sf wn wf rd hs hf ca to nl n f i s4k1_p = (cond (Nat.ble 64 (List.length (outV (fun x => !qaV (fo f i 1) (fo f i 2) x) wf wn)))
  (cond (Nat.ble (List.length (outV (fun x => !qaV (fo f i 1) (fo f i 2) x) wf wn)) 1000)
  (cond (decide ((↑(List.length (outV (fun x => !qaV (fo f i 1) (fo f i 2) x) wf wn)) : Int) > IntKind.wrap .i64 ((↑wn : Int) + 1)))
  (some (2, (CS.mk [(AV.bool (false))] [])))
  (cond (decide ((↑(List.length (outV (fun x => !qaV (fo f i 1) (fo f i 2) x) wf wn)) : Int) < IntKind.wrap .i64 ((↑wn : Int) - 1)))
  (some (2, (CS.mk [(AV.bool (false))] [])))
  (some (0, (sN nd sf (List.length (outV (fun x => !qaV (fo f i 1) (fo f i 2) x) wf wn)) (finW ((outV (fun x => !qaV (fo f i 1) (fo f i 2) x) wf (wn)))) rd hs hf (caF ca (↑(List.length (outV (fun x => !qaV (fo f i 1) (fo f i 2) x) wf wn)) : Int) (↑wn : Int)) (IntKind.wrap .i64 (to + 0)) nl n f (IntKind.wrap .i64 ((↑i : Int) + 1)))))))
  none)
  (cond (Nat.ble (List.length (apdV (outV (fun x => !qaV (fo f i 1) (fo f i 2) x) wf wn) ⟨fo f i 1, fo f i 2, 0, fo f i 4, fo f i 5, IntKind.wrap .u64 (rd + 1)⟩)) 1000)
  (cond (decide ((↑(List.length (apdV (outV (fun x => !qaV (fo f i 1) (fo f i 2) x) wf wn) ⟨fo f i 1, fo f i 2, 0, fo f i 4, fo f i 5, IntKind.wrap .u64 (rd + 1)⟩)) : Int) > IntKind.wrap .i64 ((↑wn : Int) + 1)))
  (some (2, (CS.mk [(AV.bool (false))] [])))
  (cond (decide ((↑(List.length (apdV (outV (fun x => !qaV (fo f i 1) (fo f i 2) x) wf wn) ⟨fo f i 1, fo f i 2, 0, fo f i 4, fo f i 5, IntKind.wrap .u64 (rd + 1)⟩)) : Int) < IntKind.wrap .i64 ((↑wn : Int) - 1)))
  (some (2, (CS.mk [(AV.bool (false))] [])))
  (some (0, (sN nd sf (List.length (apdV (outV (fun x => !qaV (fo f i 1) (fo f i 2) x) wf wn) ⟨fo f i 1, fo f i 2, 0, fo f i 4, fo f i 5, IntKind.wrap .u64 (rd + 1)⟩)) (finW (apdV (outV (fun x => !qaV (fo f i 1) (fo f i 2) x) wf wn) ⟨fo f i 1, fo f i 2, 0, fo f i 4, fo f i 5, IntKind.wrap .u64 (rd + 1)⟩)) (IntKind.wrap .u64 (rd + 1)) hs hf (caF ca (↑(List.length (apdV (outV (fun x => !qaV (fo f i 1) (fo f i 2) x) wf wn) ⟨fo f i 1, fo f i 2, 0, fo f i 4, fo f i 5, IntKind.wrap .u64 (rd + 1)⟩)) : Int) (↑wn : Int)) (IntKind.wrap .i64 (to + 0)) nl n f (IntKind.wrap .i64 ((↑i : Int) + 1)))))))
  none)) := by
  rw [s4k1_is]
  try simp only [hy0, hy1, hy2, hy3, hy4, hy5, hy6, hy7, hy8, eq_self, decide_true, beq_self_eq_true, Nat.beq_refl, ble_self, Int.le_refl, Nat.le_refl]
  cases (Nat.ble 64 (List.length (outV (fun x => !qaV (fo f i 1) (fo f i 2) x) wf wn))) with
  | true =>
    cases (Nat.ble (List.length (outV (fun x => !qaV (fo f i 1) (fo f i 2) x) wf wn)) 1000) with
    | true =>
      cases (decide ((↑(List.length (outV (fun x => !qaV (fo f i 1) (fo f i 2) x) wf wn)) : Int) > IntKind.wrap .i64 ((↑wn : Int) + 1))) with
      | true =>
        rfl
      | false =>
        cases (decide ((↑(List.length (outV (fun x => !qaV (fo f i 1) (fo f i 2) x) wf wn)) : Int) < IntKind.wrap .i64 ((↑wn : Int) - 1))) with
        | true =>
          rfl
        | false =>
          rfl
    | false =>
      rfl
  | false =>
    cases (Nat.ble (List.length (apdV (outV (fun x => !qaV (fo f i 1) (fo f i 2) x) wf wn) ⟨fo f i 1, fo f i 2, 0, fo f i 4, fo f i 5, IntKind.wrap .u64 (rd + 1)⟩)) 1000) with
    | true =>
      cases (decide ((↑(List.length (apdV (outV (fun x => !qaV (fo f i 1) (fo f i 2) x) wf wn) ⟨fo f i 1, fo f i 2, 0, fo f i 4, fo f i 5, IntKind.wrap .u64 (rd + 1)⟩)) : Int) > IntKind.wrap .i64 ((↑wn : Int) + 1))) with
      | true =>
        rfl
      | false =>
        cases (decide ((↑(List.length (apdV (outV (fun x => !qaV (fo f i 1) (fo f i 2) x) wf wn) ⟨fo f i 1, fo f i 2, 0, fo f i 4, fo f i 5, IntKind.wrap .u64 (rd + 1)⟩)) : Int) < IntKind.wrap .i64 ((↑wn : Int) - 1))) with
        | true =>
          rfl
        | false =>
          rfl
    | false =>
      rfl
noncomputable def s4k2 (nd : Int) (sf : Int) (wn : Nat) (wf : Nat → Nat → AV) (rd : Int) (hs : AV → Bool) (hf : AV → Nat → AV) (ca : Int) (to : Int) (nl : Bool) (n : Nat) (f : Nat → Nat → AV) (i : Nat) (π : Plan) : Option (Nat × CS) := stepC (FA) (600) (loopC FA 4 0) (0) (h4) ((.normal, h4) :: x4) π (c4 nd sf wn wf rd hs hf ca to nl n f i)
def s4k2_p : Plan := (.must true (.reck 1 (.must true (.must true (.must true (.reck 1 (.must true (.reck 3 (.must true (.reck 1 (.must false (.must false (.must true (.reck 6 (.fork (.must true (.reck 1 (.must true (.reck 3 (.must true (.reck 1 (.must false (.must false (.must false (.must true (.reck 1 (.fork .stop .stop)))))))))))) (.must true (.reck 1 (.must true (.reck 3 (.must true (.reck 1 (.must false (.must false (.must false (.must true (.reck 1 (.fork .stop .stop)))))))))))))))))))))))))))
theorem s4k2_is (nd : Int) (sf : Int) (wn : Nat) (wf : Nat → Nat → AV) (rd : Int) (hs : AV → Bool) (hf : AV → Nat → AV) (ca : Int) (to : Int) (nl : Bool) (n : Nat) (f : Nat → Nat → AV) (i : Nat) : s4k2 nd sf wn wf rd hs hf ca to nl n f i s4k2_p = (cond (decide ((↑i : Int) < (↑n : Int))) (cond (decide ((↑i : Int) < (↑n : Int))) (cond (Nat.blt (0 + Int.toNat (↑i : Int)) n) (cond (decide (wn = wn)) (cond (decide (wn = wn)) (cond (Nat.ble wn 1000) (cond (fo f i 0 == 0) none (cond (fo f i 0 == 1) none (cond (fo f i 0 == 2) (cond (nd == 0)
  (cond (decide (wn = wn)) (cond (decide (wn = wn)) (cond (Nat.ble wn 1000) (cond (decide (fo f i 0 > 1) == false) none (cond (decide (fo f i 0 > 1) == false) none (cond (decide (fo f i 0 > 1) == false) none (cond (decide (fo f i 0 > 1)) (cond ((↑wn : Int) != IntKind.wrap .i64 ((↑wn : Int) - 0))
  (some (2, (CS.mk [(AV.bool (false))] [])))
  (some (0, (sN nd sf wn wf rd hs hf (caF ca (↑wn : Int) (↑wn : Int)) (IntKind.wrap .i64 (to + 0)) nl n f (IntKind.wrap .i64 ((↑i : Int) + 1)))))) none)))) none) none) none)
  (cond (decide (wn = wn)) (cond (decide (wn = wn)) (cond (Nat.ble wn 1000) (cond (decide (fo f i 0 > 1) == false) none (cond (decide (fo f i 0 > 1) == false) none (cond (decide (fo f i 0 > 1) == false) none (cond (decide (fo f i 0 > 1)) (cond ((↑wn : Int) != IntKind.wrap .i64 ((↑wn : Int) - 0))
  (some (2, (CS.mk [(AV.bool (false))] [])))
  (some (0, (sN nd sf wn wf (IntKind.wrap .u64 (rd + 1)) hs hf (caF ca (↑wn : Int) (↑wn : Int)) (IntKind.wrap .i64 (to + 0)) nl n f (IntKind.wrap .i64 ((↑i : Int) + 1)))))) none)))) none) none) none)) none))) none) none) none) none) none) none) := by kernel_rfl
theorem s4k2_eq (nd : Int) (sf : Int) (wn : Nat) (wf : Nat → Nat → AV) (rd : Int) (hs : AV → Bool) (hf : AV → Nat → AV) (ca : Int) (to : Int) (nl : Bool) (n : Nat) (f : Nat → Nat → AV) (i : Nat) (hy0 : (decide ((↑i : Int) < (↑n : Int))) = true) (hy1 : (Nat.blt (0 + Int.toNat (↑i : Int)) n) = true) (hy2 : (decide (1 ≤ nd)) = true) (hy3 : (decide (nd ≤ 7)) = true) (hy4 : (Nat.ble wn 1000) = true) (hy5 : (fo f i 0 == 0) = false) (hy6 : (fo f i 0 == 1) = false) (hy7 : (fo f i 0 == 2) = true) (hy8 : (decide (fo f i 0 > 1)) = true) : s4k2 nd sf wn wf rd hs hf ca to nl n f i s4k2_p = (cond (nd == 0)
  (cond ((↑wn : Int) != IntKind.wrap .i64 ((↑wn : Int) - 0))
  (some (2, (CS.mk [(AV.bool (false))] [])))
  (some (0, (sN nd sf wn wf rd hs hf (caF ca (↑wn : Int) (↑wn : Int)) (IntKind.wrap .i64 (to + 0)) nl n f (IntKind.wrap .i64 ((↑i : Int) + 1))))))
  (cond ((↑wn : Int) != IntKind.wrap .i64 ((↑wn : Int) - 0))
  (some (2, (CS.mk [(AV.bool (false))] [])))
  (some (0, (sN nd sf wn wf (IntKind.wrap .u64 (rd + 1)) hs hf (caF ca (↑wn : Int) (↑wn : Int)) (IntKind.wrap .i64 (to + 0)) nl n f (IntKind.wrap .i64 ((↑i : Int) + 1))))))) := by
  rw [s4k2_is]
  try simp only [hy0, hy1, hy2, hy3, hy4, hy5, hy6, hy7, hy8, eq_self, decide_true, beq_self_eq_true, Nat.beq_refl, ble_self, Int.le_refl, Nat.le_refl]
  cases (nd == 0) with
  | true =>
    cases ((↑wn : Int) != IntKind.wrap .i64 ((↑wn : Int) - 0)) with
    | true =>
      rfl
    | false =>
      rfl
  | false =>
    cases ((↑wn : Int) != IntKind.wrap .i64 ((↑wn : Int) - 0)) with
    | true =>
      rfl
    | false =>
      rfl
noncomputable def s4k3 (nd : Int) (sf : Int) (wn : Nat) (wf : Nat → Nat → AV) (rd : Int) (hs : AV → Bool) (hf : AV → Nat → AV) (ca : Int) (to : Int) (nl : Bool) (n : Nat) (f : Nat → Nat → AV) (i : Nat) (π : Plan) : Option (Nat × CS) := stepC (FA) (600) (loopC FA 4 0) (0) (h4) ((.normal, h4) :: x4) π (c4 nd sf wn wf rd hs hf ca to nl n f i)
def s4k3_p : Plan := (.must true (.reck 1 (.must true (.must true (.must true (.reck 1 (.must true (.reck 3 (.must true (.reck 1 (.must false (.must false (.must false (.must true (.must true (.reck 1 (.must true (.reck 3 (.must true (.must true (.must true (.reck 1 (.fork (.fork (.reck 10 (.must false (.must false (.must false (.must true (.reck 1 (.fork .stop .stop))))))) (.reck 2 (.must true (.reck 1 (.must true (.reck 3 (.fork (.reck 1 (.must false (.must false (.must false (.must true (.reck 1 (.fork .stop .stop))))))) .stop))))))) (.fork (.reck 10 (.must false (.must false (.must false (.must true (.reck 1 (.fork .stop .stop))))))) (.reck 2 (.must true (.reck 1 (.must true (.reck 3 (.fork (.reck 1 (.must false (.must false (.must false (.must true (.reck 1 (.fork .stop .stop))))))) .stop))))))))))))))))))))))))))))))
theorem s4k3_is (nd : Int) (sf : Int) (wn : Nat) (wf : Nat → Nat → AV) (rd : Int) (hs : AV → Bool) (hf : AV → Nat → AV) (ca : Int) (to : Int) (nl : Bool) (n : Nat) (f : Nat → Nat → AV) (i : Nat) : s4k3 nd sf wn wf rd hs hf ca to nl n f i s4k3_p = (cond (decide ((↑i : Int) < (↑n : Int))) (cond (decide ((↑i : Int) < (↑n : Int))) (cond (Nat.blt (0 + Int.toNat (↑i : Int)) n) (cond (decide (wn = wn)) (cond (decide (wn = wn)) (cond (Nat.ble wn 1000) (cond (fo f i 0 == 0) none (cond (fo f i 0 == 1) none (cond (fo f i 0 == 2) none (cond (fo f i 0 == 3) (cond (decide (wn = wn)) (cond (decide (wn = wn)) (cond (decide (1 ≤ nd)) (cond (decide (nd ≤ 7)) (cond (Nat.ble wn 1000) (cond (Nat.beq (List.length (outV (qbV (leastV nd sf rd (heSV (heUV nd sf rd (fo f i 6) (fo f i 3)) (fo f i 6) hs) (heFV (heUV nd sf rd (fo f i 6) (fo f i 3)) (fo f i 6) (fo f i 3) hs hf))) wf wn)) 0)
  (cond (Nat.beq (List.length (outV (fun x => !qbV (leastV nd sf rd (heSV (heUV nd sf rd (fo f i 6) (fo f i 3)) (fo f i 6) hs) (heFV (heUV nd sf rd (fo f i 6) (fo f i 3)) (fo f i 6) (fo f i 3) hs hf)) x) wf wn)) 0)
  (cond (decide (fo f i 0 > 1) == false) none (cond (decide (fo f i 0 > 1) == false) none (cond (decide (fo f i 0 > 1) == false) none (cond (decide (fo f i 0 > 1)) (cond ((↑0 : Int) != IntKind.wrap .i64 ((↑wn : Int) - 0))
  (some (2, (CS.mk [(AV.bool (false))] [])))
  (some (0, (s0 nd sf rd (heSV (heUV nd sf rd (fo f i 6) (fo f i 3)) (fo f i 6) hs) (heFV (heUV nd sf rd (fo f i 6) (fo f i 3)) (fo f i 6) (fo f i 3) hs hf) (caF ca (↑0 : Int) (↑wn : Int)) (IntKind.wrap .i64 (to + 0)) nl n f (IntKind.wrap .i64 ((↑i : Int) + 1)))))) none))))
  (cond (decide (List.length (outV (fun x => !qbV (leastV nd sf rd (heSV (heUV nd sf rd (fo f i 6) (fo f i 3)) (fo f i 6) hs) (heFV (heUV nd sf rd (fo f i 6) (fo f i 3)) (fo f i 6) (fo f i 3) hs hf)) x) wf wn) = List.length (outV (fun x => !qbV (leastV nd sf rd (heSV (heUV nd sf rd (fo f i 6) (fo f i 3)) (fo f i 6) hs) (heFV (heUV nd sf rd (fo f i 6) (fo f i 3)) (fo f i 6) (fo f i 3) hs hf)) x) wf wn))) (cond (decide (List.length (outV (fun x => !qbV (leastV nd sf rd (heSV (heUV nd sf rd (fo f i 6) (fo f i 3)) (fo f i 6) hs) (heFV (heUV nd sf rd (fo f i 6) (fo f i 3)) (fo f i 6) (fo f i 3) hs hf)) x) wf wn) = List.length (outV (fun x => !qbV (leastV nd sf rd (heSV (heUV nd sf rd (fo f i 6) (fo f i 3)) (fo f i 6) hs) (heFV (heUV nd sf rd (fo f i 6) (fo f i 3)) (fo f i 6) (fo f i 3) hs hf)) x) wf wn))) (cond (Nat.ble (List.length (outV (fun x => !qbV (leastV nd sf rd (heSV (heUV nd sf rd (fo f i 6) (fo f i 3)) (fo f i 6) hs) (heFV (heUV nd sf rd (fo f i 6) (fo f i 3)) (fo f i 6) (fo f i 3) hs hf)) x) wf wn)) 1000)
  (cond (decide (fo f i 0 > 1) == false) none (cond (decide (fo f i 0 > 1) == false) none (cond (decide (fo f i 0 > 1) == false) none (cond (decide (fo f i 0 > 1)) (cond ((↑(List.length (outV (fun x => !qbV (leastV nd sf rd (heSV (heUV nd sf rd (fo f i 6) (fo f i 3)) (fo f i 6) hs) (heFV (heUV nd sf rd (fo f i 6) (fo f i 3)) (fo f i 6) (fo f i 3) hs hf)) x) wf wn)) : Int) != IntKind.wrap .i64 ((↑wn : Int) - 0))
  (some (2, (CS.mk [(AV.bool (false))] [])))
  (some (0, (sN nd sf (List.length (outV (fun x => !qbV (leastV nd sf rd (heSV (heUV nd sf rd (fo f i 6) (fo f i 3)) (fo f i 6) hs) (heFV (heUV nd sf rd (fo f i 6) (fo f i 3)) (fo f i 6) (fo f i 3) hs hf)) x) wf wn)) (finW ((outV (fun x => !qbV (leastV nd sf rd (heSV (heUV nd sf rd (fo f i 6) (fo f i 3)) (fo f i 6) hs) (heFV (heUV nd sf rd (fo f i 6) (fo f i 3)) (fo f i 6) (fo f i 3) hs hf)) x) wf (wn)))) rd (heSV (heUV nd sf rd (fo f i 6) (fo f i 3)) (fo f i 6) hs) (heFV (heUV nd sf rd (fo f i 6) (fo f i 3)) (fo f i 6) (fo f i 3) hs hf) (caF ca (↑(List.length (outV (fun x => !qbV (leastV nd sf rd (heSV (heUV nd sf rd (fo f i 6) (fo f i 3)) (fo f i 6) hs) (heFV (heUV nd sf rd (fo f i 6) (fo f i 3)) (fo f i 6) (fo f i 3) hs hf)) x) wf wn)) : Int) (↑wn : Int)) (IntKind.wrap .i64 (to + 0)) nl n f (IntKind.wrap .i64 ((↑i : Int) + 1)))))) none))))
  none) none) none))
  (cond (Nat.beq (List.length (outV (fun x => !qbV (leastV nd sf rd (heSV (heUV nd sf rd (fo f i 6) (fo f i 3)) (fo f i 6) hs) (heFV (heUV nd sf rd (fo f i 6) (fo f i 3)) (fo f i 6) (fo f i 3) hs hf)) x) wf wn)) 0)
  (cond (decide (fo f i 0 > 1) == false) none (cond (decide (fo f i 0 > 1) == false) none (cond (decide (fo f i 0 > 1) == false) none (cond (decide (fo f i 0 > 1)) (cond ((↑0 : Int) != IntKind.wrap .i64 ((↑wn : Int) - (↑(List.length (outV (qbV (leastV nd sf rd (heSV (heUV nd sf rd (fo f i 6) (fo f i 3)) (fo f i 6) hs) (heFV (heUV nd sf rd (fo f i 6) (fo f i 3)) (fo f i 6) (fo f i 3) hs hf))) wf wn)) : Int)))
  (some (2, (CS.mk [(AV.bool (false))] [])))
  (some (0, (s0 nd sf rd (heSV (heUV nd sf rd (fo f i 6) (fo f i 3)) (fo f i 6) hs) (heFV (heUV nd sf rd (fo f i 6) (fo f i 3)) (fo f i 6) (fo f i 3) hs hf) (caF ca (↑0 : Int) (↑wn : Int)) (IntKind.wrap .i64 (to + (↑(List.length (outV (qbV (leastV nd sf rd (heSV (heUV nd sf rd (fo f i 6) (fo f i 3)) (fo f i 6) hs) (heFV (heUV nd sf rd (fo f i 6) (fo f i 3)) (fo f i 6) (fo f i 3) hs hf))) wf wn)) : Int))) nl n f (IntKind.wrap .i64 ((↑i : Int) + 1)))))) none))))
  (cond (decide (List.length (outV (fun x => !qbV (leastV nd sf rd (heSV (heUV nd sf rd (fo f i 6) (fo f i 3)) (fo f i 6) hs) (heFV (heUV nd sf rd (fo f i 6) (fo f i 3)) (fo f i 6) (fo f i 3) hs hf)) x) wf wn) = List.length (outV (fun x => !qbV (leastV nd sf rd (heSV (heUV nd sf rd (fo f i 6) (fo f i 3)) (fo f i 6) hs) (heFV (heUV nd sf rd (fo f i 6) (fo f i 3)) (fo f i 6) (fo f i 3) hs hf)) x) wf wn))) (cond (decide (List.length (outV (fun x => !qbV (leastV nd sf rd (heSV (heUV nd sf rd (fo f i 6) (fo f i 3)) (fo f i 6) hs) (heFV (heUV nd sf rd (fo f i 6) (fo f i 3)) (fo f i 6) (fo f i 3) hs hf)) x) wf wn) = List.length (outV (fun x => !qbV (leastV nd sf rd (heSV (heUV nd sf rd (fo f i 6) (fo f i 3)) (fo f i 6) hs) (heFV (heUV nd sf rd (fo f i 6) (fo f i 3)) (fo f i 6) (fo f i 3) hs hf)) x) wf wn))) (cond (Nat.ble (List.length (outV (fun x => !qbV (leastV nd sf rd (heSV (heUV nd sf rd (fo f i 6) (fo f i 3)) (fo f i 6) hs) (heFV (heUV nd sf rd (fo f i 6) (fo f i 3)) (fo f i 6) (fo f i 3) hs hf)) x) wf wn)) 1000)
  (cond (decide (fo f i 0 > 1) == false) none (cond (decide (fo f i 0 > 1) == false) none (cond (decide (fo f i 0 > 1) == false) none (cond (decide (fo f i 0 > 1)) (cond ((↑(List.length (outV (fun x => !qbV (leastV nd sf rd (heSV (heUV nd sf rd (fo f i 6) (fo f i 3)) (fo f i 6) hs) (heFV (heUV nd sf rd (fo f i 6) (fo f i 3)) (fo f i 6) (fo f i 3) hs hf)) x) wf wn)) : Int) != IntKind.wrap .i64 ((↑wn : Int) - (↑(List.length (outV (qbV (leastV nd sf rd (heSV (heUV nd sf rd (fo f i 6) (fo f i 3)) (fo f i 6) hs) (heFV (heUV nd sf rd (fo f i 6) (fo f i 3)) (fo f i 6) (fo f i 3) hs hf))) wf wn)) : Int)))
  (some (2, (CS.mk [(AV.bool (false))] [])))
  (some (0, (sN nd sf (List.length (outV (fun x => !qbV (leastV nd sf rd (heSV (heUV nd sf rd (fo f i 6) (fo f i 3)) (fo f i 6) hs) (heFV (heUV nd sf rd (fo f i 6) (fo f i 3)) (fo f i 6) (fo f i 3) hs hf)) x) wf wn)) (finW ((outV (fun x => !qbV (leastV nd sf rd (heSV (heUV nd sf rd (fo f i 6) (fo f i 3)) (fo f i 6) hs) (heFV (heUV nd sf rd (fo f i 6) (fo f i 3)) (fo f i 6) (fo f i 3) hs hf)) x) wf (wn)))) rd (heSV (heUV nd sf rd (fo f i 6) (fo f i 3)) (fo f i 6) hs) (heFV (heUV nd sf rd (fo f i 6) (fo f i 3)) (fo f i 6) (fo f i 3) hs hf) (caF ca (↑(List.length (outV (fun x => !qbV (leastV nd sf rd (heSV (heUV nd sf rd (fo f i 6) (fo f i 3)) (fo f i 6) hs) (heFV (heUV nd sf rd (fo f i 6) (fo f i 3)) (fo f i 6) (fo f i 3) hs hf)) x) wf wn)) : Int) (↑wn : Int)) (IntKind.wrap .i64 (to + (↑(List.length (outV (qbV (leastV nd sf rd (heSV (heUV nd sf rd (fo f i 6) (fo f i 3)) (fo f i 6) hs) (heFV (heUV nd sf rd (fo f i 6) (fo f i 3)) (fo f i 6) (fo f i 3) hs hf))) wf wn)) : Int))) nl n f (IntKind.wrap .i64 ((↑i : Int) + 1)))))) none))))
  none) none) none))) none) none) none) none) none) none)))) none) none) none) none) none) none) := by kernel_rfl
theorem s4k3_eq (nd : Int) (sf : Int) (wn : Nat) (wf : Nat → Nat → AV) (rd : Int) (hs : AV → Bool) (hf : AV → Nat → AV) (ca : Int) (to : Int) (nl : Bool) (n : Nat) (f : Nat → Nat → AV) (i : Nat) (hy0 : (decide ((↑i : Int) < (↑n : Int))) = true) (hy1 : (Nat.blt (0 + Int.toNat (↑i : Int)) n) = true) (hy2 : (decide (1 ≤ nd)) = true) (hy3 : (decide (nd ≤ 7)) = true) (hy4 : (Nat.ble wn 1000) = true) (hy5 : (fo f i 0 == 0) = false) (hy6 : (fo f i 0 == 1) = false) (hy7 : (fo f i 0 == 2) = false) (hy8 : (fo f i 0 == 3) = true) (hy9 : (decide (fo f i 0 > 1)) = true) : s4k3 nd sf wn wf rd hs hf ca to nl n f i s4k3_p = (cond (Nat.beq (List.length (outV (qbV (leastV nd sf rd (heSV (heUV nd sf rd (fo f i 6) (fo f i 3)) (fo f i 6) hs) (heFV (heUV nd sf rd (fo f i 6) (fo f i 3)) (fo f i 6) (fo f i 3) hs hf))) wf wn)) 0)
  (cond (Nat.beq (List.length (outV (fun x => !qbV (leastV nd sf rd (heSV (heUV nd sf rd (fo f i 6) (fo f i 3)) (fo f i 6) hs) (heFV (heUV nd sf rd (fo f i 6) (fo f i 3)) (fo f i 6) (fo f i 3) hs hf)) x) wf wn)) 0)
  (cond ((↑0 : Int) != IntKind.wrap .i64 ((↑wn : Int) - 0))
  (some (2, (CS.mk [(AV.bool (false))] [])))
  (some (0, (s0 nd sf rd (heSV (heUV nd sf rd (fo f i 6) (fo f i 3)) (fo f i 6) hs) (heFV (heUV nd sf rd (fo f i 6) (fo f i 3)) (fo f i 6) (fo f i 3) hs hf) (caF ca (↑0 : Int) (↑wn : Int)) (IntKind.wrap .i64 (to + 0)) nl n f (IntKind.wrap .i64 ((↑i : Int) + 1))))))
  (cond (Nat.ble (List.length (outV (fun x => !qbV (leastV nd sf rd (heSV (heUV nd sf rd (fo f i 6) (fo f i 3)) (fo f i 6) hs) (heFV (heUV nd sf rd (fo f i 6) (fo f i 3)) (fo f i 6) (fo f i 3) hs hf)) x) wf wn)) 1000)
  (cond ((↑(List.length (outV (fun x => !qbV (leastV nd sf rd (heSV (heUV nd sf rd (fo f i 6) (fo f i 3)) (fo f i 6) hs) (heFV (heUV nd sf rd (fo f i 6) (fo f i 3)) (fo f i 6) (fo f i 3) hs hf)) x) wf wn)) : Int) != IntKind.wrap .i64 ((↑wn : Int) - 0))
  (some (2, (CS.mk [(AV.bool (false))] [])))
  (some (0, (sN nd sf (List.length (outV (fun x => !qbV (leastV nd sf rd (heSV (heUV nd sf rd (fo f i 6) (fo f i 3)) (fo f i 6) hs) (heFV (heUV nd sf rd (fo f i 6) (fo f i 3)) (fo f i 6) (fo f i 3) hs hf)) x) wf wn)) (finW ((outV (fun x => !qbV (leastV nd sf rd (heSV (heUV nd sf rd (fo f i 6) (fo f i 3)) (fo f i 6) hs) (heFV (heUV nd sf rd (fo f i 6) (fo f i 3)) (fo f i 6) (fo f i 3) hs hf)) x) wf (wn)))) rd (heSV (heUV nd sf rd (fo f i 6) (fo f i 3)) (fo f i 6) hs) (heFV (heUV nd sf rd (fo f i 6) (fo f i 3)) (fo f i 6) (fo f i 3) hs hf) (caF ca (↑(List.length (outV (fun x => !qbV (leastV nd sf rd (heSV (heUV nd sf rd (fo f i 6) (fo f i 3)) (fo f i 6) hs) (heFV (heUV nd sf rd (fo f i 6) (fo f i 3)) (fo f i 6) (fo f i 3) hs hf)) x) wf wn)) : Int) (↑wn : Int)) (IntKind.wrap .i64 (to + 0)) nl n f (IntKind.wrap .i64 ((↑i : Int) + 1))))))
  none))
  (cond (Nat.beq (List.length (outV (fun x => !qbV (leastV nd sf rd (heSV (heUV nd sf rd (fo f i 6) (fo f i 3)) (fo f i 6) hs) (heFV (heUV nd sf rd (fo f i 6) (fo f i 3)) (fo f i 6) (fo f i 3) hs hf)) x) wf wn)) 0)
  (cond ((↑0 : Int) != IntKind.wrap .i64 ((↑wn : Int) - (↑(List.length (outV (qbV (leastV nd sf rd (heSV (heUV nd sf rd (fo f i 6) (fo f i 3)) (fo f i 6) hs) (heFV (heUV nd sf rd (fo f i 6) (fo f i 3)) (fo f i 6) (fo f i 3) hs hf))) wf wn)) : Int)))
  (some (2, (CS.mk [(AV.bool (false))] [])))
  (some (0, (s0 nd sf rd (heSV (heUV nd sf rd (fo f i 6) (fo f i 3)) (fo f i 6) hs) (heFV (heUV nd sf rd (fo f i 6) (fo f i 3)) (fo f i 6) (fo f i 3) hs hf) (caF ca (↑0 : Int) (↑wn : Int)) (IntKind.wrap .i64 (to + (↑(List.length (outV (qbV (leastV nd sf rd (heSV (heUV nd sf rd (fo f i 6) (fo f i 3)) (fo f i 6) hs) (heFV (heUV nd sf rd (fo f i 6) (fo f i 3)) (fo f i 6) (fo f i 3) hs hf))) wf wn)) : Int))) nl n f (IntKind.wrap .i64 ((↑i : Int) + 1))))))
  (cond (Nat.ble (List.length (outV (fun x => !qbV (leastV nd sf rd (heSV (heUV nd sf rd (fo f i 6) (fo f i 3)) (fo f i 6) hs) (heFV (heUV nd sf rd (fo f i 6) (fo f i 3)) (fo f i 6) (fo f i 3) hs hf)) x) wf wn)) 1000)
  (cond ((↑(List.length (outV (fun x => !qbV (leastV nd sf rd (heSV (heUV nd sf rd (fo f i 6) (fo f i 3)) (fo f i 6) hs) (heFV (heUV nd sf rd (fo f i 6) (fo f i 3)) (fo f i 6) (fo f i 3) hs hf)) x) wf wn)) : Int) != IntKind.wrap .i64 ((↑wn : Int) - (↑(List.length (outV (qbV (leastV nd sf rd (heSV (heUV nd sf rd (fo f i 6) (fo f i 3)) (fo f i 6) hs) (heFV (heUV nd sf rd (fo f i 6) (fo f i 3)) (fo f i 6) (fo f i 3) hs hf))) wf wn)) : Int)))
  (some (2, (CS.mk [(AV.bool (false))] [])))
  (some (0, (sN nd sf (List.length (outV (fun x => !qbV (leastV nd sf rd (heSV (heUV nd sf rd (fo f i 6) (fo f i 3)) (fo f i 6) hs) (heFV (heUV nd sf rd (fo f i 6) (fo f i 3)) (fo f i 6) (fo f i 3) hs hf)) x) wf wn)) (finW ((outV (fun x => !qbV (leastV nd sf rd (heSV (heUV nd sf rd (fo f i 6) (fo f i 3)) (fo f i 6) hs) (heFV (heUV nd sf rd (fo f i 6) (fo f i 3)) (fo f i 6) (fo f i 3) hs hf)) x) wf (wn)))) rd (heSV (heUV nd sf rd (fo f i 6) (fo f i 3)) (fo f i 6) hs) (heFV (heUV nd sf rd (fo f i 6) (fo f i 3)) (fo f i 6) (fo f i 3) hs hf) (caF ca (↑(List.length (outV (fun x => !qbV (leastV nd sf rd (heSV (heUV nd sf rd (fo f i 6) (fo f i 3)) (fo f i 6) hs) (heFV (heUV nd sf rd (fo f i 6) (fo f i 3)) (fo f i 6) (fo f i 3) hs hf)) x) wf wn)) : Int) (↑wn : Int)) (IntKind.wrap .i64 (to + (↑(List.length (outV (qbV (leastV nd sf rd (heSV (heUV nd sf rd (fo f i 6) (fo f i 3)) (fo f i 6) hs) (heFV (heUV nd sf rd (fo f i 6) (fo f i 3)) (fo f i 6) (fo f i 3) hs hf))) wf wn)) : Int))) nl n f (IntKind.wrap .i64 ((↑i : Int) + 1))))))
  none))) := by
  rw [s4k3_is]
  try simp only [hy0, hy1, hy2, hy3, hy4, hy5, hy6, hy7, hy8, hy9, eq_self, decide_true, beq_self_eq_true, Nat.beq_refl, ble_self, Int.le_refl, Nat.le_refl]
  cases (Nat.beq (List.length (outV (qbV (leastV nd sf rd (heSV (heUV nd sf rd (fo f i 6) (fo f i 3)) (fo f i 6) hs) (heFV (heUV nd sf rd (fo f i 6) (fo f i 3)) (fo f i 6) (fo f i 3) hs hf))) wf wn)) 0) with
  | true =>
    cases (Nat.beq (List.length (outV (fun x => !qbV (leastV nd sf rd (heSV (heUV nd sf rd (fo f i 6) (fo f i 3)) (fo f i 6) hs) (heFV (heUV nd sf rd (fo f i 6) (fo f i 3)) (fo f i 6) (fo f i 3) hs hf)) x) wf wn)) 0) with
    | true =>
      cases ((↑0 : Int) != IntKind.wrap .i64 ((↑wn : Int) - 0)) with
      | true =>
        rfl
      | false =>
        rfl
    | false =>
      cases (Nat.ble (List.length (outV (fun x => !qbV (leastV nd sf rd (heSV (heUV nd sf rd (fo f i 6) (fo f i 3)) (fo f i 6) hs) (heFV (heUV nd sf rd (fo f i 6) (fo f i 3)) (fo f i 6) (fo f i 3) hs hf)) x) wf wn)) 1000) with
      | true =>
        cases ((↑(List.length (outV (fun x => !qbV (leastV nd sf rd (heSV (heUV nd sf rd (fo f i 6) (fo f i 3)) (fo f i 6) hs) (heFV (heUV nd sf rd (fo f i 6) (fo f i 3)) (fo f i 6) (fo f i 3) hs hf)) x) wf wn)) : Int) != IntKind.wrap .i64 ((↑wn : Int) - 0)) with
        | true =>
          rfl
        | false =>
          rfl
      | false =>
        rfl
  | false =>
    cases (Nat.beq (List.length (outV (fun x => !qbV (leastV nd sf rd (heSV (heUV nd sf rd (fo f i 6) (fo f i 3)) (fo f i 6) hs) (heFV (heUV nd sf rd (fo f i 6) (fo f i 3)) (fo f i 6) (fo f i 3) hs hf)) x) wf wn)) 0) with
    | true =>
      cases ((↑0 : Int) != IntKind.wrap .i64 ((↑wn : Int) - (↑(List.length (outV (qbV (leastV nd sf rd (heSV (heUV nd sf rd (fo f i 6) (fo f i 3)) (fo f i 6) hs) (heFV (heUV nd sf rd (fo f i 6) (fo f i 3)) (fo f i 6) (fo f i 3) hs hf))) wf wn)) : Int))) with
      | true =>
        rfl
      | false =>
        rfl
    | false =>
      cases (Nat.ble (List.length (outV (fun x => !qbV (leastV nd sf rd (heSV (heUV nd sf rd (fo f i 6) (fo f i 3)) (fo f i 6) hs) (heFV (heUV nd sf rd (fo f i 6) (fo f i 3)) (fo f i 6) (fo f i 3) hs hf)) x) wf wn)) 1000) with
      | true =>
        cases ((↑(List.length (outV (fun x => !qbV (leastV nd sf rd (heSV (heUV nd sf rd (fo f i 6) (fo f i 3)) (fo f i 6) hs) (heFV (heUV nd sf rd (fo f i 6) (fo f i 3)) (fo f i 6) (fo f i 3) hs hf)) x) wf wn)) : Int) != IntKind.wrap .i64 ((↑wn : Int) - (↑(List.length (outV (qbV (leastV nd sf rd (heSV (heUV nd sf rd (fo f i 6) (fo f i 3)) (fo f i 6) hs) (heFV (heUV nd sf rd (fo f i 6) (fo f i 3)) (fo f i 6) (fo f i 3) hs hf))) wf wn)) : Int))) with
        | true =>
          rfl
        | false =>
          rfl
      | false =>
        rfl
noncomputable def s4k4 (nd : Int) (sf : Int) (wn : Nat) (wf : Nat → Nat → AV) (rd : Int) (hs : AV → Bool) (hf : AV → Nat → AV) (ca : Int) (to : Int) (nl : Bool) (n : Nat) (f : Nat → Nat → AV) (i : Nat) (π : Plan) : Option (Nat × CS) := stepC (FA) (600) (loopC FA 4 0) (0) (h4) ((.normal, h4) :: x4) π (c4 nd sf wn wf rd hs hf ca to nl n f i)
def s4k4_p : Plan := (.must true (.reck 1 (.must true (.must true (.must true (.reck 1 (.must true (.reck 3 (.must true (.reck 1 (.must false (.must false (.must false (.must false (.must true (.reck 1 (.must true (.reck 3 (.must true (.must true (.must true (.reck 1 (.fork (.fork (.reck 10 (.must false (.must false (.must false (.must true (.reck 1 (.fork .stop .stop))))))) (.reck 2 (.must true (.reck 1 (.must true (.reck 3 (.fork (.reck 1 (.must false (.must false (.must false (.must true (.reck 1 (.fork .stop .stop))))))) .stop))))))) (.fork (.reck 10 (.must false (.must false (.must false (.must true (.reck 1 (.fork .stop .stop))))))) (.reck 2 (.must true (.reck 1 (.must true (.reck 3 (.fork (.reck 1 (.must false (.must false (.must false (.must true (.reck 1 (.fork .stop .stop))))))) .stop))))))))))))))))))))))))))))))
theorem s4k4_is (nd : Int) (sf : Int) (wn : Nat) (wf : Nat → Nat → AV) (rd : Int) (hs : AV → Bool) (hf : AV → Nat → AV) (ca : Int) (to : Int) (nl : Bool) (n : Nat) (f : Nat → Nat → AV) (i : Nat) : s4k4 nd sf wn wf rd hs hf ca to nl n f i s4k4_p = (cond (decide ((↑i : Int) < (↑n : Int))) (cond (decide ((↑i : Int) < (↑n : Int))) (cond (Nat.blt (0 + Int.toNat (↑i : Int)) n) (cond (decide (wn = wn)) (cond (decide (wn = wn)) (cond (Nat.ble wn 1000) (cond (fo f i 0 == 0) none (cond (fo f i 0 == 1) none (cond (fo f i 0 == 2) none (cond (fo f i 0 == 3) none (cond (decide (wn = wn)) (cond (decide (wn = wn)) (cond (decide (1 ≤ nd)) (cond (decide (nd ≤ 7)) (cond (Nat.ble wn 1000) (cond (Nat.beq (List.length (outV (qcV (fo f i 7) (fo f i 8)) wf wn)) 0)
  (cond (Nat.beq (List.length (outV (fun x => !qcV (fo f i 7) (fo f i 8) x) wf wn)) 0)
  (cond (decide (fo f i 0 > 1) == false) none (cond (decide (fo f i 0 > 1) == false) none (cond (decide (fo f i 0 > 1) == false) none (cond (decide (fo f i 0 > 1)) (cond ((↑0 : Int) != IntKind.wrap .i64 ((↑wn : Int) - 0))
  (some (2, (CS.mk [(AV.bool (false))] [])))
  (some (0, (s0 nd sf rd hs hf (caF ca (↑0 : Int) (↑wn : Int)) (IntKind.wrap .i64 (to + 0)) nl n f (IntKind.wrap .i64 ((↑i : Int) + 1)))))) none))))
  (cond (decide (List.length (outV (fun x => !qcV (fo f i 7) (fo f i 8) x) wf wn) = List.length (outV (fun x => !qcV (fo f i 7) (fo f i 8) x) wf wn))) (cond (decide (List.length (outV (fun x => !qcV (fo f i 7) (fo f i 8) x) wf wn) = List.length (outV (fun x => !qcV (fo f i 7) (fo f i 8) x) wf wn))) (cond (Nat.ble (List.length (outV (fun x => !qcV (fo f i 7) (fo f i 8) x) wf wn)) 1000)
  (cond (decide (fo f i 0 > 1) == false) none (cond (decide (fo f i 0 > 1) == false) none (cond (decide (fo f i 0 > 1) == false) none (cond (decide (fo f i 0 > 1)) (cond ((↑(List.length (outV (fun x => !qcV (fo f i 7) (fo f i 8) x) wf wn)) : Int) != IntKind.wrap .i64 ((↑wn : Int) - 0))
  (some (2, (CS.mk [(AV.bool (false))] [])))
  (some (0, (sN nd sf (List.length (outV (fun x => !qcV (fo f i 7) (fo f i 8) x) wf wn)) (finW ((outV (fun x => !qcV (fo f i 7) (fo f i 8) x) wf (wn)))) rd hs hf (caF ca (↑(List.length (outV (fun x => !qcV (fo f i 7) (fo f i 8) x) wf wn)) : Int) (↑wn : Int)) (IntKind.wrap .i64 (to + 0)) nl n f (IntKind.wrap .i64 ((↑i : Int) + 1)))))) none))))
  none) none) none))
  (cond (Nat.beq (List.length (outV (fun x => !qcV (fo f i 7) (fo f i 8) x) wf wn)) 0)
  (cond (decide (fo f i 0 > 1) == false) none (cond (decide (fo f i 0 > 1) == false) none (cond (decide (fo f i 0 > 1) == false) none (cond (decide (fo f i 0 > 1)) (cond ((↑0 : Int) != IntKind.wrap .i64 ((↑wn : Int) - (↑(List.length (outV (qcV (fo f i 7) (fo f i 8)) wf wn)) : Int)))
  (some (2, (CS.mk [(AV.bool (false))] [])))
  (some (0, (s0 nd sf rd hs hf (caF ca (↑0 : Int) (↑wn : Int)) (IntKind.wrap .i64 (to + (↑(List.length (outV (qcV (fo f i 7) (fo f i 8)) wf wn)) : Int))) nl n f (IntKind.wrap .i64 ((↑i : Int) + 1)))))) none))))
  (cond (decide (List.length (outV (fun x => !qcV (fo f i 7) (fo f i 8) x) wf wn) = List.length (outV (fun x => !qcV (fo f i 7) (fo f i 8) x) wf wn))) (cond (decide (List.length (outV (fun x => !qcV (fo f i 7) (fo f i 8) x) wf wn) = List.length (outV (fun x => !qcV (fo f i 7) (fo f i 8) x) wf wn))) (cond (Nat.ble (List.length (outV (fun x => !qcV (fo f i 7) (fo f i 8) x) wf wn)) 1000)
  (cond (decide (fo f i 0 > 1) == false) none (cond (decide (fo f i 0 > 1) == false) none (cond (decide (fo f i 0 > 1) == false) none (cond (decide (fo f i 0 > 1)) (cond ((↑(List.length (outV (fun x => !qcV (fo f i 7) (fo f i 8) x) wf wn)) : Int) != IntKind.wrap .i64 ((↑wn : Int) - (↑(List.length (outV (qcV (fo f i 7) (fo f i 8)) wf wn)) : Int)))
  (some (2, (CS.mk [(AV.bool (false))] [])))
  (some (0, (sN nd sf (List.length (outV (fun x => !qcV (fo f i 7) (fo f i 8) x) wf wn)) (finW ((outV (fun x => !qcV (fo f i 7) (fo f i 8) x) wf (wn)))) rd hs hf (caF ca (↑(List.length (outV (fun x => !qcV (fo f i 7) (fo f i 8) x) wf wn)) : Int) (↑wn : Int)) (IntKind.wrap .i64 (to + (↑(List.length (outV (qcV (fo f i 7) (fo f i 8)) wf wn)) : Int))) nl n f (IntKind.wrap .i64 ((↑i : Int) + 1)))))) none))))
  none) none) none))) none) none) none) none) none))))) none) none) none) none) none) none) := by kernel_rfl
theorem s4k4_eq (nd : Int) (sf : Int) (wn : Nat) (wf : Nat → Nat → AV) (rd : Int) (hs : AV → Bool) (hf : AV → Nat → AV) (ca : Int) (to : Int) (nl : Bool) (n : Nat) (f : Nat → Nat → AV) (i : Nat) (hy0 : (decide ((↑i : Int) < (↑n : Int))) = true) (hy1 : (Nat.blt (0 + Int.toNat (↑i : Int)) n) = true) (hy2 : (decide (1 ≤ nd)) = true) (hy3 : (decide (nd ≤ 7)) = true) (hy4 : (Nat.ble wn 1000) = true) (hy5 : (fo f i 0 == 0) = false) (hy6 : (fo f i 0 == 1) = false) (hy7 : (fo f i 0 == 2) = false) (hy8 : (fo f i 0 == 3) = false) (hy9 : (decide (fo f i 0 > 1)) = true) : s4k4 nd sf wn wf rd hs hf ca to nl n f i s4k4_p = (cond (Nat.beq (List.length (outV (qcV (fo f i 7) (fo f i 8)) wf wn)) 0)
  (cond (Nat.beq (List.length (outV (fun x => !qcV (fo f i 7) (fo f i 8) x) wf wn)) 0)
  (cond ((↑0 : Int) != IntKind.wrap .i64 ((↑wn : Int) - 0))
  (some (2, (CS.mk [(AV.bool (false))] [])))
  (some (0, (s0 nd sf rd hs hf (caF ca (↑0 : Int) (↑wn : Int)) (IntKind.wrap .i64 (to + 0)) nl n f (IntKind.wrap .i64 ((↑i : Int) + 1))))))
  (cond (Nat.ble (List.length (outV (fun x => !qcV (fo f i 7) (fo f i 8) x) wf wn)) 1000)
  (cond ((↑(List.length (outV (fun x => !qcV (fo f i 7) (fo f i 8) x) wf wn)) : Int) != IntKind.wrap .i64 ((↑wn : Int) - 0))
  (some (2, (CS.mk [(AV.bool (false))] [])))
  (some (0, (sN nd sf (List.length (outV (fun x => !qcV (fo f i 7) (fo f i 8) x) wf wn)) (finW ((outV (fun x => !qcV (fo f i 7) (fo f i 8) x) wf (wn)))) rd hs hf (caF ca (↑(List.length (outV (fun x => !qcV (fo f i 7) (fo f i 8) x) wf wn)) : Int) (↑wn : Int)) (IntKind.wrap .i64 (to + 0)) nl n f (IntKind.wrap .i64 ((↑i : Int) + 1))))))
  none))
  (cond (Nat.beq (List.length (outV (fun x => !qcV (fo f i 7) (fo f i 8) x) wf wn)) 0)
  (cond ((↑0 : Int) != IntKind.wrap .i64 ((↑wn : Int) - (↑(List.length (outV (qcV (fo f i 7) (fo f i 8)) wf wn)) : Int)))
  (some (2, (CS.mk [(AV.bool (false))] [])))
  (some (0, (s0 nd sf rd hs hf (caF ca (↑0 : Int) (↑wn : Int)) (IntKind.wrap .i64 (to + (↑(List.length (outV (qcV (fo f i 7) (fo f i 8)) wf wn)) : Int))) nl n f (IntKind.wrap .i64 ((↑i : Int) + 1))))))
  (cond (Nat.ble (List.length (outV (fun x => !qcV (fo f i 7) (fo f i 8) x) wf wn)) 1000)
  (cond ((↑(List.length (outV (fun x => !qcV (fo f i 7) (fo f i 8) x) wf wn)) : Int) != IntKind.wrap .i64 ((↑wn : Int) - (↑(List.length (outV (qcV (fo f i 7) (fo f i 8)) wf wn)) : Int)))
  (some (2, (CS.mk [(AV.bool (false))] [])))
  (some (0, (sN nd sf (List.length (outV (fun x => !qcV (fo f i 7) (fo f i 8) x) wf wn)) (finW ((outV (fun x => !qcV (fo f i 7) (fo f i 8) x) wf (wn)))) rd hs hf (caF ca (↑(List.length (outV (fun x => !qcV (fo f i 7) (fo f i 8) x) wf wn)) : Int) (↑wn : Int)) (IntKind.wrap .i64 (to + (↑(List.length (outV (qcV (fo f i 7) (fo f i 8)) wf wn)) : Int))) nl n f (IntKind.wrap .i64 ((↑i : Int) + 1))))))
  none))) := by
  rw [s4k4_is]
  try simp only [hy0, hy1, hy2, hy3, hy4, hy5, hy6, hy7, hy8, hy9, eq_self, decide_true, beq_self_eq_true, Nat.beq_refl, ble_self, Int.le_refl, Nat.le_refl]
  cases (Nat.beq (List.length (outV (qcV (fo f i 7) (fo f i 8)) wf wn)) 0) with
  | true =>
    cases (Nat.beq (List.length (outV (fun x => !qcV (fo f i 7) (fo f i 8) x) wf wn)) 0) with
    | true =>
      cases ((↑0 : Int) != IntKind.wrap .i64 ((↑wn : Int) - 0)) with
      | true =>
        rfl
      | false =>
        rfl
    | false =>
      cases (Nat.ble (List.length (outV (fun x => !qcV (fo f i 7) (fo f i 8) x) wf wn)) 1000) with
      | true =>
        cases ((↑(List.length (outV (fun x => !qcV (fo f i 7) (fo f i 8) x) wf wn)) : Int) != IntKind.wrap .i64 ((↑wn : Int) - 0)) with
        | true =>
          rfl
        | false =>
          rfl
      | false =>
        rfl
  | false =>
    cases (Nat.beq (List.length (outV (fun x => !qcV (fo f i 7) (fo f i 8) x) wf wn)) 0) with
    | true =>
      cases ((↑0 : Int) != IntKind.wrap .i64 ((↑wn : Int) - (↑(List.length (outV (qcV (fo f i 7) (fo f i 8)) wf wn)) : Int))) with
      | true =>
        rfl
      | false =>
        rfl
    | false =>
      cases (Nat.ble (List.length (outV (fun x => !qcV (fo f i 7) (fo f i 8) x) wf wn)) 1000) with
      | true =>
        cases ((↑(List.length (outV (fun x => !qcV (fo f i 7) (fo f i 8) x) wf wn)) : Int) != IntKind.wrap .i64 ((↑wn : Int) - (↑(List.length (outV (qcV (fo f i 7) (fo f i 8)) wf wn)) : Int))) with
        | true =>
          rfl
        | false =>
          rfl
      | false =>
        rfl
noncomputable def s4k5 (nd : Int) (sf : Int) (wn : Nat) (wf : Nat → Nat → AV) (rd : Int) (hs : AV → Bool) (hf : AV → Nat → AV) (ca : Int) (to : Int) (nl : Bool) (n : Nat) (f : Nat → Nat → AV) (i : Nat) (π : Plan) : Option (Nat × CS) := stepC (FA) (600) (loopC FA 4 0) (0) (h4) ((.normal, h4) :: x4) π (c4 nd sf wn wf rd hs hf ca to nl n f i)
def s4k5_p : Plan := (.must true (.reck 1 (.must true (.must true (.must true (.reck 1 (.must true (.reck 3 (.must true (.reck 1 (.must false (.must false (.must false (.must false (.must true (.reck 1 (.must true (.reck 3 (.must true (.must true (.must true (.reck 1 (.fork (.fork (.reck 10 (.must true (.must true (.must true (.must false (.must true (.fork .stop .stop))))))) (.reck 2 (.must true (.reck 1 (.must true (.reck 3 (.fork (.reck 1 (.must true (.must true (.must true (.must false (.must true (.fork .stop .stop))))))) .stop))))))) (.fork (.reck 10 (.must true (.must true (.must true (.must false (.must true (.fork .stop .stop))))))) (.reck 2 (.must true (.reck 1 (.must true (.reck 3 (.fork (.reck 1 (.must true (.must true (.must true (.must false (.must true (.fork .stop .stop))))))) .stop))))))))))))))))))))))))))))))
theorem s4k5_is (nd : Int) (sf : Int) (wn : Nat) (wf : Nat → Nat → AV) (rd : Int) (hs : AV → Bool) (hf : AV → Nat → AV) (ca : Int) (to : Int) (nl : Bool) (n : Nat) (f : Nat → Nat → AV) (i : Nat) : s4k5 nd sf wn wf rd hs hf ca to nl n f i s4k5_p = (cond (decide ((↑i : Int) < (↑n : Int))) (cond (decide ((↑i : Int) < (↑n : Int))) (cond (Nat.blt (0 + Int.toNat (↑i : Int)) n) (cond (decide (wn = wn)) (cond (decide (wn = wn)) (cond (Nat.ble wn 1000) (cond (fo f i 0 == 0) none (cond (fo f i 0 == 1) none (cond (fo f i 0 == 2) none (cond (fo f i 0 == 3) none (cond (decide (wn = wn)) (cond (decide (wn = wn)) (cond (decide (1 ≤ nd)) (cond (decide (nd ≤ 7)) (cond (Nat.ble wn 1000) (cond (Nat.beq (List.length (outV (qcV (fo f i 7) (fo f i 8)) wf wn)) 0)
  (cond (Nat.beq (List.length (outV (fun x => !qcV (fo f i 7) (fo f i 8) x) wf wn)) 0)
  (cond (decide (fo f i 0 > 1) == false) (cond (decide (fo f i 0 > 1) == false) (cond (decide (fo f i 0 > 1) == false) (cond (decide (fo f i 0 > 1)) none (cond (decide (fo f i 0 < 0)) (cond ((↑0 : Int) != IntKind.wrap .i64 ((↑wn : Int) - 0))
  (some (2, (CS.mk [(AV.bool (false))] [])))
  (some (0, (s0 nd sf rd hs hf (caF ca (↑0 : Int) (↑wn : Int)) (IntKind.wrap .i64 (to + 0)) nl n f (IntKind.wrap .i64 ((↑i : Int) + 1)))))) none)) none) none) none)
  (cond (decide (List.length (outV (fun x => !qcV (fo f i 7) (fo f i 8) x) wf wn) = List.length (outV (fun x => !qcV (fo f i 7) (fo f i 8) x) wf wn))) (cond (decide (List.length (outV (fun x => !qcV (fo f i 7) (fo f i 8) x) wf wn) = List.length (outV (fun x => !qcV (fo f i 7) (fo f i 8) x) wf wn))) (cond (Nat.ble (List.length (outV (fun x => !qcV (fo f i 7) (fo f i 8) x) wf wn)) 1000)
  (cond (decide (fo f i 0 > 1) == false) (cond (decide (fo f i 0 > 1) == false) (cond (decide (fo f i 0 > 1) == false) (cond (decide (fo f i 0 > 1)) none (cond (decide (fo f i 0 < 0)) (cond ((↑(List.length (outV (fun x => !qcV (fo f i 7) (fo f i 8) x) wf wn)) : Int) != IntKind.wrap .i64 ((↑wn : Int) - 0))
  (some (2, (CS.mk [(AV.bool (false))] [])))
  (some (0, (sN nd sf (List.length (outV (fun x => !qcV (fo f i 7) (fo f i 8) x) wf wn)) (finW ((outV (fun x => !qcV (fo f i 7) (fo f i 8) x) wf (wn)))) rd hs hf (caF ca (↑(List.length (outV (fun x => !qcV (fo f i 7) (fo f i 8) x) wf wn)) : Int) (↑wn : Int)) (IntKind.wrap .i64 (to + 0)) nl n f (IntKind.wrap .i64 ((↑i : Int) + 1)))))) none)) none) none) none)
  none) none) none))
  (cond (Nat.beq (List.length (outV (fun x => !qcV (fo f i 7) (fo f i 8) x) wf wn)) 0)
  (cond (decide (fo f i 0 > 1) == false) (cond (decide (fo f i 0 > 1) == false) (cond (decide (fo f i 0 > 1) == false) (cond (decide (fo f i 0 > 1)) none (cond (decide (fo f i 0 < 0)) (cond ((↑0 : Int) != IntKind.wrap .i64 ((↑wn : Int) - (↑(List.length (outV (qcV (fo f i 7) (fo f i 8)) wf wn)) : Int)))
  (some (2, (CS.mk [(AV.bool (false))] [])))
  (some (0, (s0 nd sf rd hs hf (caF ca (↑0 : Int) (↑wn : Int)) (IntKind.wrap .i64 (to + (↑(List.length (outV (qcV (fo f i 7) (fo f i 8)) wf wn)) : Int))) nl n f (IntKind.wrap .i64 ((↑i : Int) + 1)))))) none)) none) none) none)
  (cond (decide (List.length (outV (fun x => !qcV (fo f i 7) (fo f i 8) x) wf wn) = List.length (outV (fun x => !qcV (fo f i 7) (fo f i 8) x) wf wn))) (cond (decide (List.length (outV (fun x => !qcV (fo f i 7) (fo f i 8) x) wf wn) = List.length (outV (fun x => !qcV (fo f i 7) (fo f i 8) x) wf wn))) (cond (Nat.ble (List.length (outV (fun x => !qcV (fo f i 7) (fo f i 8) x) wf wn)) 1000)
  (cond (decide (fo f i 0 > 1) == false) (cond (decide (fo f i 0 > 1) == false) (cond (decide (fo f i 0 > 1) == false) (cond (decide (fo f i 0 > 1)) none (cond (decide (fo f i 0 < 0)) (cond ((↑(List.length (outV (fun x => !qcV (fo f i 7) (fo f i 8) x) wf wn)) : Int) != IntKind.wrap .i64 ((↑wn : Int) - (↑(List.length (outV (qcV (fo f i 7) (fo f i 8)) wf wn)) : Int)))
  (some (2, (CS.mk [(AV.bool (false))] [])))
  (some (0, (sN nd sf (List.length (outV (fun x => !qcV (fo f i 7) (fo f i 8) x) wf wn)) (finW ((outV (fun x => !qcV (fo f i 7) (fo f i 8) x) wf (wn)))) rd hs hf (caF ca (↑(List.length (outV (fun x => !qcV (fo f i 7) (fo f i 8) x) wf wn)) : Int) (↑wn : Int)) (IntKind.wrap .i64 (to + (↑(List.length (outV (qcV (fo f i 7) (fo f i 8)) wf wn)) : Int))) nl n f (IntKind.wrap .i64 ((↑i : Int) + 1)))))) none)) none) none) none)
  none) none) none))) none) none) none) none) none))))) none) none) none) none) none) none) := by kernel_rfl
theorem s4k5_eq (nd : Int) (sf : Int) (wn : Nat) (wf : Nat → Nat → AV) (rd : Int) (hs : AV → Bool) (hf : AV → Nat → AV) (ca : Int) (to : Int) (nl : Bool) (n : Nat) (f : Nat → Nat → AV) (i : Nat) (hy0 : (decide ((↑i : Int) < (↑n : Int))) = true) (hy1 : (Nat.blt (0 + Int.toNat (↑i : Int)) n) = true) (hy2 : (decide (1 ≤ nd)) = true) (hy3 : (decide (nd ≤ 7)) = true) (hy4 : (Nat.ble wn 1000) = true) (hy5 : (fo f i 0 == 0) = false) (hy6 : (fo f i 0 == 1) = false) (hy7 : (fo f i 0 == 2) = false) (hy8 : (fo f i 0 == 3) = false) (hy9 : (decide (fo f i 0 > 1)) = false) (hy10 : (decide (fo f i 0 < 0)) = true) : s4k5 nd sf wn wf rd hs hf ca to nl n f i s4k5_p = (cond (Nat.beq (List.length (outV (qcV (fo f i 7) (fo f i 8)) wf wn)) 0)
  (cond (Nat.beq (List.length (outV (fun x => !qcV (fo f i 7) (fo f i 8) x) wf wn)) 0)
  (cond ((↑0 : Int) != IntKind.wrap .i64 ((↑wn : Int) - 0))
  (some (2, (CS.mk [(AV.bool (false))] [])))
  (some (0, (s0 nd sf rd hs hf (caF ca (↑0 : Int) (↑wn : Int)) (IntKind.wrap .i64 (to + 0)) nl n f (IntKind.wrap .i64 ((↑i : Int) + 1))))))
  (cond (Nat.ble (List.length (outV (fun x => !qcV (fo f i 7) (fo f i 8) x) wf wn)) 1000)
  (cond ((↑(List.length (outV (fun x => !qcV (fo f i 7) (fo f i 8) x) wf wn)) : Int) != IntKind.wrap .i64 ((↑wn : Int) - 0))
  (some (2, (CS.mk [(AV.bool (false))] [])))
  (some (0, (sN nd sf (List.length (outV (fun x => !qcV (fo f i 7) (fo f i 8) x) wf wn)) (finW ((outV (fun x => !qcV (fo f i 7) (fo f i 8) x) wf (wn)))) rd hs hf (caF ca (↑(List.length (outV (fun x => !qcV (fo f i 7) (fo f i 8) x) wf wn)) : Int) (↑wn : Int)) (IntKind.wrap .i64 (to + 0)) nl n f (IntKind.wrap .i64 ((↑i : Int) + 1))))))
  none))
  (cond (Nat.beq (List.length (outV (fun x => !qcV (fo f i 7) (fo f i 8) x) wf wn)) 0)
  (cond ((↑0 : Int) != IntKind.wrap .i64 ((↑wn : Int) - (↑(List.length (outV (qcV (fo f i 7) (fo f i 8)) wf wn)) : Int)))
  (some (2, (CS.mk [(AV.bool (false))] [])))
  (some (0, (s0 nd sf rd hs hf (caF ca (↑0 : Int) (↑wn : Int)) (IntKind.wrap .i64 (to + (↑(List.length (outV (qcV (fo f i 7) (fo f i 8)) wf wn)) : Int))) nl n f (IntKind.wrap .i64 ((↑i : Int) + 1))))))
  (cond (Nat.ble (List.length (outV (fun x => !qcV (fo f i 7) (fo f i 8) x) wf wn)) 1000)
  (cond ((↑(List.length (outV (fun x => !qcV (fo f i 7) (fo f i 8) x) wf wn)) : Int) != IntKind.wrap .i64 ((↑wn : Int) - (↑(List.length (outV (qcV (fo f i 7) (fo f i 8)) wf wn)) : Int)))
  (some (2, (CS.mk [(AV.bool (false))] [])))
  (some (0, (sN nd sf (List.length (outV (fun x => !qcV (fo f i 7) (fo f i 8) x) wf wn)) (finW ((outV (fun x => !qcV (fo f i 7) (fo f i 8) x) wf (wn)))) rd hs hf (caF ca (↑(List.length (outV (fun x => !qcV (fo f i 7) (fo f i 8) x) wf wn)) : Int) (↑wn : Int)) (IntKind.wrap .i64 (to + (↑(List.length (outV (qcV (fo f i 7) (fo f i 8)) wf wn)) : Int))) nl n f (IntKind.wrap .i64 ((↑i : Int) + 1))))))
  none))) := by
  rw [s4k5_is]
  try simp only [hy0, hy1, hy2, hy3, hy4, hy5, hy6, hy7, hy8, hy9, hy10, eq_self, decide_true, beq_self_eq_true, Nat.beq_refl, ble_self, Int.le_refl, Nat.le_refl]
  cases (Nat.beq (List.length (outV (qcV (fo f i 7) (fo f i 8)) wf wn)) 0) with
  | true =>
    cases (Nat.beq (List.length (outV (fun x => !qcV (fo f i 7) (fo f i 8) x) wf wn)) 0) with
    | true =>
      cases ((↑0 : Int) != IntKind.wrap .i64 ((↑wn : Int) - 0)) with
      | true =>
        rfl
      | false =>
        rfl
    | false =>
      cases (Nat.ble (List.length (outV (fun x => !qcV (fo f i 7) (fo f i 8) x) wf wn)) 1000) with
      | true =>
        cases ((↑(List.length (outV (fun x => !qcV (fo f i 7) (fo f i 8) x) wf wn)) : Int) != IntKind.wrap .i64 ((↑wn : Int) - 0)) with
        | true =>
          rfl
        | false =>
          rfl
      | false =>
        rfl
  | false =>
    cases (Nat.beq (List.length (outV (fun x => !qcV (fo f i 7) (fo f i 8) x) wf wn)) 0) with
    | true =>
      cases ((↑0 : Int) != IntKind.wrap .i64 ((↑wn : Int) - (↑(List.length (outV (qcV (fo f i 7) (fo f i 8)) wf wn)) : Int))) with
      | true =>
        rfl
      | false =>
        rfl
    | false =>
      cases (Nat.ble (List.length (outV (fun x => !qcV (fo f i 7) (fo f i 8) x) wf wn)) 1000) with
      | true =>
        cases ((↑(List.length (outV (fun x => !qcV (fo f i 7) (fo f i 8) x) wf wn)) : Int) != IntKind.wrap .i64 ((↑wn : Int) - (↑(List.length (outV (qcV (fo f i 7) (fo f i 8)) wf wn)) : Int))) with
        | true =>
          rfl
        | false =>
          rfl
      | false =>
        rfl
noncomputable def s4ne (nd : Int) (sf : Int) (rd : Int) (hs : AV → Bool) (hf : AV → Nat → AV) (ca : Int) (to : Int) (nl : Bool) (n : Nat) (f : Nat → Nat → AV) (i : Nat) (π : Plan) : Option (Nat × CS) := stepC (FA) (600) (loopC FA 4 0) (0) (h4) ((.normal, h4) :: x4) π (c4n nd sf rd hs hf ca to nl n f i)
def s4ne_p : Plan := (.must false .stop)
theorem s4ne_is (nd : Int) (sf : Int) (rd : Int) (hs : AV → Bool) (hf : AV → Nat → AV) (ca : Int) (to : Int) (nl : Bool) (n : Nat) (f : Nat → Nat → AV) (i : Nat) : s4ne nd sf rd hs hf ca to nl n f i s4ne_p = (cond (decide ((↑i : Int) < (↑n : Int))) none (some (1, (CS.mk [(AV.ptr (0) (0)), (.int .i64 (ca)), (.int .i64 (to))] [some (AObj.cells [(.int .i64 (nd)), (.int .i64 (sf)), (AV.osl (true) (1) (0) (0) (0) (6) (true)), (.int .u64 (rd)), (AV.map (2))] true), some (AObj.tarr shW (0) (fun p_ q_ => AV.bad) true), some (AObj.omap shI shU false false [(.int .u64 (0))] hs hf true)])))) := by kernel_rfl
theorem s4ne_eq (nd : Int) (sf : Int) (rd : Int) (hs : AV → Bool) (hf : AV → Nat → AV) (ca : Int) (to : Int) (nl : Bool) (n : Nat) (f : Nat → Nat → AV) (i : Nat) (hy0 : (decide ((↑i : Int) < (↑n : Int))) = false) : s4ne nd sf rd hs hf ca to nl n f i s4ne_p = (some (1, (CS.mk [(AV.ptr (0) (0)), (.int .i64 (ca)), (.int .i64 (to))] [some (AObj.cells [(.int .i64 (nd)), (.int .i64 (sf)), (AV.osl (true) (1) (0) (0) (0) (6) (true)), (.int .u64 (rd)), (AV.map (2))] true), some (AObj.tarr shW (0) (fun p_ q_ => AV.bad) true), some (AObj.omap shI shU false false [(.int .u64 (0))] hs hf true)]))) := by
  rw [s4ne_is]
  try simp only [hy0, eq_self, decide_true, beq_self_eq_true, Nat.beq_refl, ble_self, Int.le_refl, Nat.le_refl]
  rfl
noncomputable def s4nk0 (nd : Int) (sf : Int) (rd : Int) (hs : AV → Bool) (hf : AV → Nat → AV) (ca : Int) (to : Int) (nl : Bool) (n : Nat) (f : Nat → Nat → AV) (i : Nat) (π : Plan) : Option (Nat × CS) := stepC (FA) (600) (loopC FA 4 0) (0) (h4) ((.normal, h4) :: x4) π (c4n nd sf rd hs hf ca to nl n f i)
def s4nk0_p : Plan := (.must true (.reck 1 (.must true (.must true (.reck 8 (.must true (.reck 6 (.must true (.must true (.reck 2 (.fork (.reck 10 (.must true (.must true (.must true (.must false (.must false .stop)))))) (.reck 3 (.must true (.reck 1 (.must true (.reck 3 (.fork (.reck 1 (.must true (.must true (.must true (.must false (.must false (.fork (.must true (.must true (.must true (.must false .stop)))) (.must false (.must false (.must false (.must true .stop))))))))))) .stop)))))))))))))))))
theorem s4nk0_is (nd : Int) (sf : Int) (rd : Int) (hs : AV → Bool) (hf : AV → Nat → AV) (ca : Int) (to : Int) (nl : Bool) (n : Nat) (f : Nat → Nat → AV) (i : Nat) : s4nk0 nd sf rd hs hf ca to nl n f i s4nk0_p = (cond (decide ((↑i : Int) < (↑n : Int))) (cond (decide ((↑i : Int) < (↑n : Int))) (cond (Nat.blt (0 + Int.toNat (↑i : Int)) n) (cond (fo f i 0 == 0) (cond (decide (1 ≤ nd)) (cond (decide (nd ≤ 7)) (cond (fo f i 3 == 0)
  (cond (decide (fo f i 0 > 1) == false) (cond (decide (fo f i 0 > 1) == false) (cond (decide (fo f i 0 > 1) == false) (cond (decide (fo f i 0 > 1)) none (cond (decide (fo f i 0 < 0)) none (some (0, (s0 nd sf rd hs hf (caF ca (↑0 : Int) (↑0 : Int)) (IntKind.wrap .i64 (to + 0)) nl n f (IntKind.wrap .i64 ((↑i : Int) + 1))))))) none) none) none)
  (cond (decide (List.length (apdV (rdW bd 0) ⟨fo f i 1, fo f i 2, fo f i 3, 0, 0, 0⟩) = List.length (apdV (rdW bd 0) ⟨fo f i 1, fo f i 2, fo f i 3, 0, 0, 0⟩))) (cond (decide (List.length (apdV (rdW bd 0) ⟨fo f i 1, fo f i 2, fo f i 3, 0, 0, 0⟩) = List.length (apdV (rdW bd 0) ⟨fo f i 1, fo f i 2, fo f i 3, 0, 0, 0⟩))) (cond (Nat.ble (List.length (apdV (rdW bd 0) ⟨fo f i 1, fo f i 2, fo f i 3, 0, 0, 0⟩)) 1000)
  (cond (decide (fo f i 0 > 1) == false) (cond (decide (fo f i 0 > 1) == false) (cond (decide (fo f i 0 > 1) == false) (cond (decide (fo f i 0 > 1)) none (cond (decide (fo f i 0 < 0)) none (cond (decide ((↑(List.length (apdV (rdW bd 0) ⟨fo f i 1, fo f i 2, fo f i 3, 0, 0, 0⟩)) : Int) > IntKind.wrap .i64 ((↑0 : Int) + 1)) == false)
  (cond (decide ((↑(List.length (apdV (rdW bd 0) ⟨fo f i 1, fo f i 2, fo f i 3, 0, 0, 0⟩)) : Int) > IntKind.wrap .i64 ((↑0 : Int) + 1)) == false) (cond (decide ((↑(List.length (apdV (rdW bd 0) ⟨fo f i 1, fo f i 2, fo f i 3, 0, 0, 0⟩)) : Int) > IntKind.wrap .i64 ((↑0 : Int) + 1)) == false) (cond (decide ((↑(List.length (apdV (rdW bd 0) ⟨fo f i 1, fo f i 2, fo f i 3, 0, 0, 0⟩)) : Int) > IntKind.wrap .i64 ((↑0 : Int) + 1)) == false) (cond (decide ((↑(List.length (apdV (rdW bd 0) ⟨fo f i 1, fo f i 2, fo f i 3, 0, 0, 0⟩)) : Int) > IntKind.wrap .i64 ((↑0 : Int) + 1))) none (some (0, (sN nd sf (List.length (apdV (rdW bd 0) ⟨fo f i 1, fo f i 2, fo f i 3, 0, 0, 0⟩)) (finW (apdV (rdW bd 0) ⟨fo f i 1, fo f i 2, fo f i 3, 0, 0, 0⟩)) rd hs hf (caF ca (↑(List.length (apdV (rdW bd 0) ⟨fo f i 1, fo f i 2, fo f i 3, 0, 0, 0⟩)) : Int) (↑0 : Int)) (IntKind.wrap .i64 (to + 0)) nl n f (IntKind.wrap .i64 ((↑i : Int) + 1)))))) none) none) none)
  (cond (decide ((↑(List.length (apdV (rdW bd 0) ⟨fo f i 1, fo f i 2, fo f i 3, 0, 0, 0⟩)) : Int) > IntKind.wrap .i64 ((↑0 : Int) + 1)) == false) none (cond (decide ((↑(List.length (apdV (rdW bd 0) ⟨fo f i 1, fo f i 2, fo f i 3, 0, 0, 0⟩)) : Int) > IntKind.wrap .i64 ((↑0 : Int) + 1)) == false) none (cond (decide ((↑(List.length (apdV (rdW bd 0) ⟨fo f i 1, fo f i 2, fo f i 3, 0, 0, 0⟩)) : Int) > IntKind.wrap .i64 ((↑0 : Int) + 1)) == false) none (cond (decide ((↑(List.length (apdV (rdW bd 0) ⟨fo f i 1, fo f i 2, fo f i 3, 0, 0, 0⟩)) : Int) > IntKind.wrap .i64 ((↑0 : Int) + 1))) (some (2, (CS.mk [(AV.bool (false))] []))) none))))))) none) none) none)
  none) none) none)) none) none) none) none) none) none) := by kernel_rfl
theorem s4nk0_eq (nd : Int) (sf : Int) (rd : Int) (hs : AV → Bool) (hf : AV → Nat → AV) (ca : Int) (to : Int) (nl : Bool) (n : Nat) (f : Nat → Nat → AV) (i : Nat) (hy0 : (decide ((↑i : Int) < (↑n : Int))) = true) (hy1 : (Nat.blt (0 + Int.toNat (↑i : Int)) n) = true) (hy2 : (decide (1 ≤ nd)) = true) (hy3 : (decide (nd ≤ 7)) = true) (hy4 : (fo f i 0 == 0) = true) (hy5 : (decide (fo f i 0 > 1)) = false) (hy6 : (decide (fo f i 0 < 0)) = false) : s4nk0 nd sf rd hs hf ca to nl n f i s4nk0_p = (cond (fo f i 3 == 0)
  (some (0, (s0 nd sf rd hs hf (caF ca (↑0 : Int) (↑0 : Int)) (IntKind.wrap .i64 (to + 0)) nl n f (IntKind.wrap .i64 ((↑i : Int) + 1)))))
  (cond (Nat.ble (List.length (apdV (rdW bd 0) ⟨fo f i 1, fo f i 2, fo f i 3, 0, 0, 0⟩)) 1000)
  (cond (decide ((↑(List.length (apdV (rdW bd 0) ⟨fo f i 1, fo f i 2, fo f i 3, 0, 0, 0⟩)) : Int) > IntKind.wrap .i64 ((↑0 : Int) + 1)))
  (some (2, (CS.mk [(AV.bool (false))] [])))
  (some (0, (sN nd sf (List.length (apdV (rdW bd 0) ⟨fo f i 1, fo f i 2, fo f i 3, 0, 0, 0⟩)) (finW (apdV (rdW bd 0) ⟨fo f i 1, fo f i 2, fo f i 3, 0, 0, 0⟩)) rd hs hf (caF ca (↑(List.length (apdV (rdW bd 0) ⟨fo f i 1, fo f i 2, fo f i 3, 0, 0, 0⟩)) : Int) (↑0 : Int)) (IntKind.wrap .i64 (to + 0)) nl n f (IntKind.wrap .i64 ((↑i : Int) + 1))))))
  none)) := by
  rw [s4nk0_is]
  try simp only [hy0, hy1, hy2, hy3, hy4, hy5, hy6, eq_self, decide_true, beq_self_eq_true, Nat.beq_refl, ble_self, Int.le_refl, Nat.le_refl]
  cases (fo f i 3 == 0) with
  | true =>
    rfl
  | false =>
    cases (Nat.ble (List.length (apdV (rdW bd 0) ⟨fo f i 1, fo f i 2, fo f i 3, 0, 0, 0⟩)) 1000) with
    | true =>
      cases (decide ((↑(List.length (apdV (rdW bd 0) ⟨fo f i 1, fo f i 2, fo f i 3, 0, 0, 0⟩)) : Int) > IntKind.wrap .i64 ((↑0 : Int) + 1))) with
      | true =>
        rfl
      | false =>
        rfl
    | false =>
      rfl
noncomputable def s4nk1 (nd : Int) (sf : Int) (rd : Int) (hs : AV → Bool) (hf : AV → Nat → AV) (ca : Int) (to : Int) (nl : Bool) (n : Nat) (f : Nat → Nat → AV) (i : Nat) (π : Plan) : Option (Nat × CS) := stepC (FA) (600) (loopC FA 4 0) (0) (h4) ((.normal, h4) :: x4) π (c4n nd sf rd hs hf ca to nl n f i)
def s4nk1_p : Plan := (.must true (.reck 1 (.must true (.must true (.reck 8 (.must false (.must true (.reck 6 (.must true (.must true (.reck 2 (.fork (.reck 1 (.must true (.reck 1 (.must true (.reck 3 (.fork (.reck 1 (.must true (.must true (.must true (.must false (.must false (.fork (.must true (.must true (.must true (.must false .stop)))) (.must false (.must false (.must false (.must true .stop))))))))))) .stop)))))) (.reck 1 (.must true (.reck 1 (.must true (.reck 3 (.fork (.reck 1 (.must true (.must true (.must true (.must false (.must false (.fork (.must true (.must true (.must true (.must false .stop)))) (.must false (.must false (.must false (.must true .stop))))))))))) .stop))))))))))))))))))
theorem s4nk1_is (nd : Int) (sf : Int) (rd : Int) (hs : AV → Bool) (hf : AV → Nat → AV) (ca : Int) (to : Int) (nl : Bool) (n : Nat) (f : Nat → Nat → AV) (i : Nat) : s4nk1 nd sf rd hs hf ca to nl n f i s4nk1_p = (cond (decide ((↑i : Int) < (↑n : Int))) (cond (decide ((↑i : Int) < (↑n : Int))) (cond (Nat.blt (0 + Int.toNat (↑i : Int)) n) (cond (fo f i 0 == 0) none (cond (fo f i 0 == 1) (cond (decide (1 ≤ nd)) (cond (decide (nd ≤ 7)) (cond (Nat.ble 64 (List.length (outV (fun x => !qaV (fo f i 1) (fo f i 2) x) bd 0)))
  (cond (decide (List.length (outV (fun x => !qaV (fo f i 1) (fo f i 2) x) bd 0) = List.length (outV (fun x => !qaV (fo f i 1) (fo f i 2) x) bd 0))) (cond (decide (List.length (outV (fun x => !qaV (fo f i 1) (fo f i 2) x) bd 0) = List.length (outV (fun x => !qaV (fo f i 1) (fo f i 2) x) bd 0))) (cond (Nat.ble (List.length (outV (fun x => !qaV (fo f i 1) (fo f i 2) x) bd 0)) 1000)
  (cond (decide (fo f i 0 > 1) == false) (cond (decide (fo f i 0 > 1) == false) (cond (decide (fo f i 0 > 1) == false) (cond (decide (fo f i 0 > 1)) none (cond (decide (fo f i 0 < 0)) none (cond (decide ((↑(List.length (outV (fun x => !qaV (fo f i 1) (fo f i 2) x) bd 0)) : Int) > IntKind.wrap .i64 ((↑0 : Int) + 1)) == false)
  (cond (decide ((↑(List.length (outV (fun x => !qaV (fo f i 1) (fo f i 2) x) bd 0)) : Int) > IntKind.wrap .i64 ((↑0 : Int) + 1)) == false) (cond (decide ((↑(List.length (outV (fun x => !qaV (fo f i 1) (fo f i 2) x) bd 0)) : Int) > IntKind.wrap .i64 ((↑0 : Int) + 1)) == false) (cond (decide ((↑(List.length (outV (fun x => !qaV (fo f i 1) (fo f i 2) x) bd 0)) : Int) > IntKind.wrap .i64 ((↑0 : Int) + 1)) == false) (cond (decide ((↑(List.length (outV (fun x => !qaV (fo f i 1) (fo f i 2) x) bd 0)) : Int) > IntKind.wrap .i64 ((↑0 : Int) + 1))) none (some (0, (sN nd sf (List.length (outV (fun x => !qaV (fo f i 1) (fo f i 2) x) bd 0)) (finW ((outV (fun x => !qaV (fo f i 1) (fo f i 2) x) bd 0))) rd hs hf (caF ca (↑(List.length (outV (fun x => !qaV (fo f i 1) (fo f i 2) x) bd 0)) : Int) (↑0 : Int)) (IntKind.wrap .i64 (to + 0)) nl n f (IntKind.wrap .i64 ((↑i : Int) + 1)))))) none) none) none)
  (cond (decide ((↑(List.length (outV (fun x => !qaV (fo f i 1) (fo f i 2) x) bd 0)) : Int) > IntKind.wrap .i64 ((↑0 : Int) + 1)) == false) none (cond (decide ((↑(List.length (outV (fun x => !qaV (fo f i 1) (fo f i 2) x) bd 0)) : Int) > IntKind.wrap .i64 ((↑0 : Int) + 1)) == false) none (cond (decide ((↑(List.length (outV (fun x => !qaV (fo f i 1) (fo f i 2) x) bd 0)) : Int) > IntKind.wrap .i64 ((↑0 : Int) + 1)) == false) none (cond (decide ((↑(List.length (outV (fun x => !qaV (fo f i 1) (fo f i 2) x) bd 0)) : Int) > IntKind.wrap .i64 ((↑0 : Int) + 1))) (some (2, (CS.mk [(AV.bool (false))] []))) none))))))) none) none) none)
  none) none) none)
  (cond (decide (List.length (apdV (outV (fun x => !qaV (fo f i 1) (fo f i 2) x) bd 0) ⟨fo f i 1, fo f i 2, 0, fo f i 4, fo f i 5, IntKind.wrap .u64 (rd + 1)⟩) = List.length (apdV (outV (fun x => !qaV (fo f i 1) (fo f i 2) x) bd 0) ⟨fo f i 1, fo f i 2, 0, fo f i 4, fo f i 5, IntKind.wrap .u64 (rd + 1)⟩))) (cond (decide (List.length (apdV (outV (fun x => !qaV (fo f i 1) (fo f i 2) x) bd 0) ⟨fo f i 1, fo f i 2, 0, fo f i 4, fo f i 5, IntKind.wrap .u64 (rd + 1)⟩) = List.length (apdV (outV (fun x => !qaV (fo f i 1) (fo f i 2) x) bd 0) ⟨fo f i 1, fo f i 2, 0, fo f i 4, fo f i 5, IntKind.wrap .u64 (rd + 1)⟩))) (cond (Nat.ble (List.length (apdV (outV (fun x => !qaV (fo f i 1) (fo f i 2) x) bd 0) ⟨fo f i 1, fo f i 2, 0, fo f i 4, fo f i 5, IntKind.wrap .u64 (rd + 1)⟩)) 1000)
  (cond (decide (fo f i 0 > 1) == false) (cond (decide (fo f i 0 > 1) == false) (cond (decide (fo f i 0 > 1) == false) (cond (decide (fo f i 0 > 1)) none (cond (decide (fo f i 0 < 0)) none (cond (decide ((↑(List.length (apdV (outV (fun x => !qaV (fo f i 1) (fo f i 2) x) bd 0) ⟨fo f i 1, fo f i 2, 0, fo f i 4, fo f i 5, IntKind.wrap .u64 (rd + 1)⟩)) : Int) > IntKind.wrap .i64 ((↑0 : Int) + 1)) == false)
  (cond (decide ((↑(List.length (apdV (outV (fun x => !qaV (fo f i 1) (fo f i 2) x) bd 0) ⟨fo f i 1, fo f i 2, 0, fo f i 4, fo f i 5, IntKind.wrap .u64 (rd + 1)⟩)) : Int) > IntKind.wrap .i64 ((↑0 : Int) + 1)) == false) (cond (decide ((↑(List.length (apdV (outV (fun x => !qaV (fo f i 1) (fo f i 2) x) bd 0) ⟨fo f i 1, fo f i 2, 0, fo f i 4, fo f i 5, IntKind.wrap .u64 (rd + 1)⟩)) : Int) > IntKind.wrap .i64 ((↑0 : Int) + 1)) == false) (cond (decide ((↑(List.length (apdV (outV (fun x => !qaV (fo f i 1) (fo f i 2) x) bd 0) ⟨fo f i 1, fo f i 2, 0, fo f i 4, fo f i 5, IntKind.wrap .u64 (rd + 1)⟩)) : Int) > IntKind.wrap .i64 ((↑0 : Int) + 1)) == false) (cond (decide ((↑(List.length (apdV (outV (fun x => !qaV (fo f i 1) (fo f i 2) x) bd 0) ⟨fo f i 1, fo f i 2, 0, fo f i 4, fo f i 5, IntKind.wrap .u64 (rd + 1)⟩)) : Int) > IntKind.wrap .i64 ((↑0 : Int) + 1))) none (some (0, (sN nd sf (List.length (apdV (outV (fun x => !qaV (fo f i 1) (fo f i 2) x) bd 0) ⟨fo f i 1, fo f i 2, 0, fo f i 4, fo f i 5, IntKind.wrap .u64 (rd + 1)⟩)) (finW (apdV (outV (fun x => !qaV (fo f i 1) (fo f i 2) x) bd 0) ⟨fo f i 1, fo f i 2, 0, fo f i 4, fo f i 5, IntKind.wrap .u64 (rd + 1)⟩)) (IntKind.wrap .u64 (rd + 1)) hs hf (caF ca (↑(List.length (apdV (outV (fun x => !qaV (fo f i 1) (fo f i 2) x) bd 0) ⟨fo f i 1, fo f i 2, 0, fo f i 4, fo f i 5, IntKind.wrap .u64 (rd + 1)⟩)) : Int) (↑0 : Int)) (IntKind.wrap .i64 (to + 0)) nl n f (IntKind.wrap .i64 ((↑i : Int) + 1)))))) none) none) none)
  (cond (decide ((↑(List.length (apdV (outV (fun x => !qaV (fo f i 1) (fo f i 2) x) bd 0) ⟨fo f i 1, fo f i 2, 0, fo f i 4, fo f i 5, IntKind.wrap .u64 (rd + 1)⟩)) : Int) > IntKind.wrap .i64 ((↑0 : Int) + 1)) == false) none (cond (decide ((↑(List.length (apdV (outV (fun x => !qaV (fo f i 1) (fo f i 2) x) bd 0) ⟨fo f i 1, fo f i 2, 0, fo f i 4, fo f i 5, IntKind.wrap .u64 (rd + 1)⟩)) : Int) > IntKind.wrap .i64 ((↑0 : Int) + 1)) == false) none (cond (decide ((↑(List.length (apdV (outV (fun x => !qaV (fo f i 1) (fo f i 2) x) bd 0) ⟨fo f i 1, fo f i 2, 0, fo f i 4, fo f i 5, IntKind.wrap .u64 (rd + 1)⟩)) : Int) > IntKind.wrap .i64 ((↑0 : Int) + 1)) == false) none (cond (decide ((↑(List.length (apdV (outV (fun x => !qaV (fo f i 1) (fo f i 2) x) bd 0) ⟨fo f i 1, fo f i 2, 0, fo f i 4, fo f i 5, IntKind.wrap .u64 (rd + 1)⟩)) : Int) > IntKind.wrap .i64 ((↑0 : Int) + 1))) (some (2, (CS.mk [(AV.bool (false))] []))) none))))))) none) none) none)
  none) none) none)) none) none) none)) none) none) none) := by kernel_rfl
theorem s4nk1_eq (nd : Int) (sf : Int) (rd : Int) (hs : AV → Bool) (hf : AV → Nat → AV) (ca : Int) (to : Int) (nl : Bool) (n : Nat) (f : Nat → Nat → AV) (i : Nat) (hy0 : (decide ((↑i : Int) < (↑n : Int))) = true) (hy1 : (Nat.blt (0 + Int.toNat (↑i : Int)) n) = true) (hy2 : (decide (1 ≤ nd)) = true) (hy3 : (decide (nd ≤ 7)) = true) (hy4 : (fo f i 0 == 0) = false) (hy5 : (fo f i 0 == 1) = true) (hy6 : (decide (fo f i 0 > 1)) = false) (hy7 : (decide (fo f i 0 < 0)) = false) : s4nk1 nd sf rd hs hf ca to nl n f i s4nk1_p = (cond (Nat.ble 64 (List.length (outV (fun x => !qaV (fo f i 1) (fo f i 2) x) bd 0)))
  (cond (Nat.ble (List.length (outV (fun x => !qaV (fo f i 1) (fo f i 2) x) bd 0)) 1000)
  (cond (decide ((↑(List.length (outV (fun x => !qaV (fo f i 1) (fo f i 2) x) bd 0)) : Int) > IntKind.wrap .i64 ((↑0 : Int) + 1)))
  (some (2, (CS.mk [(AV.bool (false))] [])))
  (some (0, (sN nd sf (List.length (outV (fun x => !qaV (fo f i 1) (fo f i 2) x) bd 0)) (finW ((outV (fun x => !qaV (fo f i 1) (fo f i 2) x) bd 0))) rd hs hf (caF ca (↑(List.length (outV (fun x => !qaV (fo f i 1) (fo f i 2) x) bd 0)) : Int) (↑0 : Int)) (IntKind.wrap .i64 (to + 0)) nl n f (IntKind.wrap .i64 ((↑i : Int) + 1))))))
  none)
  (cond (Nat.ble (List.length (apdV (outV (fun x => !qaV (fo f i 1) (fo f i 2) x) bd 0) ⟨fo f i 1, fo f i 2, 0, fo f i 4, fo f i 5, IntKind.wrap .u64 (rd + 1)⟩)) 1000)
  (cond (decide ((↑(List.length (apdV (outV (fun x => !qaV (fo f i 1) (fo f i 2) x) bd 0) ⟨fo f i 1, fo f i 2, 0, fo f i 4, fo f i 5, IntKind.wrap .u64 (rd + 1)⟩)) : Int) > IntKind.wrap .i64 ((↑0 : Int) + 1)))
  (some (2, (CS.mk [(AV.bool (false))] [])))
  (some (0, (sN nd sf (List.length (apdV (outV (fun x => !qaV (fo f i 1) (fo f i 2) x) bd 0) ⟨fo f i 1, fo f i 2, 0, fo f i 4, fo f i 5, IntKind.wrap .u64 (rd + 1)⟩)) (finW (apdV (outV (fun x => !qaV (fo f i 1) (fo f i 2) x) bd 0) ⟨fo f i 1, fo f i 2, 0, fo f i 4, fo f i 5, IntKind.wrap .u64 (rd + 1)⟩)) (IntKind.wrap .u64 (rd + 1)) hs hf (caF ca (↑(List.length (apdV (outV (fun x => !qaV (fo f i 1) (fo f i 2) x) bd 0) ⟨fo f i 1, fo f i 2, 0, fo f i 4, fo f i 5, IntKind.wrap .u64 (rd + 1)⟩)) : Int) (↑0 : Int)) (IntKind.wrap .i64 (to + 0)) nl n f (IntKind.wrap .i64 ((↑i : Int) + 1))))))
  none)) := by
  rw [s4nk1_is]
  try simp only [hy0, hy1, hy2, hy3, hy4, hy5, hy6, hy7, eq_self, decide_true, beq_self_eq_true, Nat.beq_refl, ble_self, Int.le_refl, Nat.le_refl]
  cases (Nat.ble 64 (List.length (outV (fun x => !qaV (fo f i 1) (fo f i 2) x) bd 0))) with
  | true =>
    cases (Nat.ble (List.length (outV (fun x => !qaV (fo f i 1) (fo f i 2) x) bd 0)) 1000) with
    | true =>
      cases (decide ((↑(List.length (outV (fun x => !qaV (fo f i 1) (fo f i 2) x) bd 0)) : Int) > IntKind.wrap .i64 ((↑0 : Int) + 1))) with
      | true =>
        rfl
      | false =>
        rfl
    | false =>
      rfl
  | false =>
    cases (Nat.ble (List.length (apdV (outV (fun x => !qaV (fo f i 1) (fo f i 2) x) bd 0) ⟨fo f i 1, fo f i 2, 0, fo f i 4, fo f i 5, IntKind.wrap .u64 (rd + 1)⟩)) 1000) with
    | true =>
      cases (decide ((↑(List.length (apdV (outV (fun x => !qaV (fo f i 1) (fo f i 2) x) bd 0) ⟨fo f i 1, fo f i 2, 0, fo f i 4, fo f i 5, IntKind.wrap .u64 (rd + 1)⟩)) : Int) > IntKind.wrap .i64 ((↑0 : Int) + 1))) with
      | true =>
        rfl
      | false =>
        rfl
    | false =>
      rfl
noncomputable def s4nk2 (nd : Int) (sf : Int) (rd : Int) (hs : AV → Bool) (hf : AV → Nat → AV) (ca : Int) (to : Int) (nl : Bool) (n : Nat) (f : Nat → Nat → AV) (i : Nat) (π : Plan) : Option (Nat × CS) := stepC (FA) (600) (loopC FA 4 0) (0) (h4) ((.normal, h4) :: x4) π (c4n nd sf rd hs hf ca to nl n f i)
def s4nk2_p : Plan := (.must true (.reck 1 (.must true (.must true (.reck 8 (.must false (.must false (.must true (.reck 6 (.fork (.reck 8 (.must false (.must false (.must false (.must true .stop))))) (.reck 8 (.must false (.must false (.must false (.must true .stop)))))))))))))))
theorem s4nk2_is (nd : Int) (sf : Int) (rd : Int) (hs : AV → Bool) (hf : AV → Nat → AV) (ca : Int) (to : Int) (nl : Bool) (n : Nat) (f : Nat → Nat → AV) (i : Nat) : s4nk2 nd sf rd hs hf ca to nl n f i s4nk2_p = (cond (decide ((↑i : Int) < (↑n : Int))) (cond (decide ((↑i : Int) < (↑n : Int))) (cond (Nat.blt (0 + Int.toNat (↑i : Int)) n) (cond (fo f i 0 == 0) none (cond (fo f i 0 == 1) none (cond (fo f i 0 == 2) (cond (nd == 0)
  (cond (decide (fo f i 0 > 1) == false) none (cond (decide (fo f i 0 > 1) == false) none (cond (decide (fo f i 0 > 1) == false) none (cond (decide (fo f i 0 > 1)) (some (0, (s0 nd sf rd hs hf (caF ca (↑0 : Int) (↑0 : Int)) (IntKind.wrap .i64 (to + 0)) nl n f (IntKind.wrap .i64 ((↑i : Int) + 1))))) none))))
  (cond (decide (fo f i 0 > 1) == false) none (cond (decide (fo f i 0 > 1) == false) none (cond (decide (fo f i 0 > 1) == false) none (cond (decide (fo f i 0 > 1)) (some (0, (s0 nd sf (IntKind.wrap .u64 (rd + 1)) hs hf (caF ca (↑0 : Int) (↑0 : Int)) (IntKind.wrap .i64 (to + 0)) nl n f (IntKind.wrap .i64 ((↑i : Int) + 1))))) none))))) none))) none) none) none) := by kernel_rfl
theorem s4nk2_eq (nd : Int) (sf : Int) (rd : Int) (hs : AV → Bool) (hf : AV → Nat → AV) (ca : Int) (to : Int) (nl : Bool) (n : Nat) (f : Nat → Nat → AV) (i : Nat) (hy0 : (decide ((↑i : Int) < (↑n : Int))) = true) (hy1 : (Nat.blt (0 + Int.toNat (↑i : Int)) n) = true) (hy2 : (decide (1 ≤ nd)) = true) (hy3 : (decide (nd ≤ 7)) = true) (hy4 : (fo f i 0 == 0) = false) (hy5 : (fo f i 0 == 1) = false) (hy6 : (fo f i 0 == 2) = true) (hy7 : (decide (fo f i 0 > 1)) = true) : s4nk2 nd sf rd hs hf ca to nl n f i s4nk2_p = (cond (nd == 0)
  (some (0, (s0 nd sf rd hs hf (caF ca (↑0 : Int) (↑0 : Int)) (IntKind.wrap .i64 (to + 0)) nl n f (IntKind.wrap .i64 ((↑i : Int) + 1)))))
  (some (0, (s0 nd sf (IntKind.wrap .u64 (rd + 1)) hs hf (caF ca (↑0 : Int) (↑0 : Int)) (IntKind.wrap .i64 (to + 0)) nl n f (IntKind.wrap .i64 ((↑i : Int) + 1)))))) := by
  rw [s4nk2_is]
  try simp only [hy0, hy1, hy2, hy3, hy4, hy5, hy6, hy7, eq_self, decide_true, beq_self_eq_true, Nat.beq_refl, ble_self, Int.le_refl, Nat.le_refl]
  cases (nd == 0) with
  | true =>
    rfl
  | false =>
    rfl
noncomputable def s4nk3 (nd : Int) (sf : Int) (rd : Int) (hs : AV → Bool) (hf : AV → Nat → AV) (ca : Int) (to : Int) (nl : Bool) (n : Nat) (f : Nat → Nat → AV) (i : Nat) (π : Plan) : Option (Nat × CS) := stepC (FA) (600) (loopC FA 4 0) (0) (h4) ((.normal, h4) :: x4) π (c4n nd sf rd hs hf ca to nl n f i)
def s4nk3_p : Plan := (.must true (.reck 1 (.must true (.must true (.reck 8 (.must false (.must false (.must false (.must true (.reck 6 (.must true (.must true (.reck 2 (.fork (.fork (.reck 10 (.must false (.must false (.must false (.must true .stop))))) (.reck 2 (.must true (.reck 1 (.must true (.reck 3 (.fork (.reck 1 (.must false (.must false (.must false (.must true (.reck 1 (.fork .stop .stop))))))) .stop))))))) (.fork (.reck 10 (.must false (.must false (.must false (.must true (.reck 1 (.fork .stop .stop))))))) (.reck 2 (.must true (.reck 1 (.must true (.reck 3 (.fork (.reck 1 (.must false (.must false (.must false (.must true (.reck 1 (.fork .stop .stop))))))) .stop)))))))))))))))))))))
theorem s4nk3_is (nd : Int) (sf : Int) (rd : Int) (hs : AV → Bool) (hf : AV → Nat → AV) (ca : Int) (to : Int) (nl : Bool) (n : Nat) (f : Nat → Nat → AV) (i : Nat) : s4nk3 nd sf rd hs hf ca to nl n f i s4nk3_p = (cond (decide ((↑i : Int) < (↑n : Int))) (cond (decide ((↑i : Int) < (↑n : Int))) (cond (Nat.blt (0 + Int.toNat (↑i : Int)) n) (cond (fo f i 0 == 0) none (cond (fo f i 0 == 1) none (cond (fo f i 0 == 2) none (cond (fo f i 0 == 3) (cond (decide (1 ≤ nd)) (cond (decide (nd ≤ 7)) (cond (Nat.beq (List.length (outV (qbV (leastV nd sf rd (heSV (heUV nd sf rd (fo f i 6) (fo f i 3)) (fo f i 6) hs) (heFV (heUV nd sf rd (fo f i 6) (fo f i 3)) (fo f i 6) (fo f i 3) hs hf))) bd 0)) 0)
  (cond (Nat.beq (List.length (outV (fun x => !qbV (leastV nd sf rd (heSV (heUV nd sf rd (fo f i 6) (fo f i 3)) (fo f i 6) hs) (heFV (heUV nd sf rd (fo f i 6) (fo f i 3)) (fo f i 6) (fo f i 3) hs hf)) x) bd 0)) 0)
  (cond (decide (fo f i 0 > 1) == false) none (cond (decide (fo f i 0 > 1) == false) none (cond (decide (fo f i 0 > 1) == false) none (cond (decide (fo f i 0 > 1)) (some (0, (s0 nd sf rd (heSV (heUV nd sf rd (fo f i 6) (fo f i 3)) (fo f i 6) hs) (heFV (heUV nd sf rd (fo f i 6) (fo f i 3)) (fo f i 6) (fo f i 3) hs hf) (caF ca (↑0 : Int) (↑0 : Int)) (IntKind.wrap .i64 (to + 0)) nl n f (IntKind.wrap .i64 ((↑i : Int) + 1))))) none))))
  (cond (decide (List.length (outV (fun x => !qbV (leastV nd sf rd (heSV (heUV nd sf rd (fo f i 6) (fo f i 3)) (fo f i 6) hs) (heFV (heUV nd sf rd (fo f i 6) (fo f i 3)) (fo f i 6) (fo f i 3) hs hf)) x) bd 0) = List.length (outV (fun x => !qbV (leastV nd sf rd (heSV (heUV nd sf rd (fo f i 6) (fo f i 3)) (fo f i 6) hs) (heFV (heUV nd sf rd (fo f i 6) (fo f i 3)) (fo f i 6) (fo f i 3) hs hf)) x) bd 0))) (cond (decide (List.length (outV (fun x => !qbV (leastV nd sf rd (heSV (heUV nd sf rd (fo f i 6) (fo f i 3)) (fo f i 6) hs) (heFV (heUV nd sf rd (fo f i 6) (fo f i 3)) (fo f i 6) (fo f i 3) hs hf)) x) bd 0) = List.length (outV (fun x => !qbV (leastV nd sf rd (heSV (heUV nd sf rd (fo f i 6) (fo f i 3)) (fo f i 6) hs) (heFV (heUV nd sf rd (fo f i 6) (fo f i 3)) (fo f i 6) (fo f i 3) hs hf)) x) bd 0))) (cond (Nat.ble (List.length (outV (fun x => !qbV (leastV nd sf rd (heSV (heUV nd sf rd (fo f i 6) (fo f i 3)) (fo f i 6) hs) (heFV (heUV nd sf rd (fo f i 6) (fo f i 3)) (fo f i 6) (fo f i 3) hs hf)) x) bd 0)) 1000)
  (cond (decide (fo f i 0 > 1) == false) none (cond (decide (fo f i 0 > 1) == false) none (cond (decide (fo f i 0 > 1) == false) none (cond (decide (fo f i 0 > 1)) (cond ((↑(List.length (outV (fun x => !qbV (leastV nd sf rd (heSV (heUV nd sf rd (fo f i 6) (fo f i 3)) (fo f i 6) hs) (heFV (heUV nd sf rd (fo f i 6) (fo f i 3)) (fo f i 6) (fo f i 3) hs hf)) x) bd 0)) : Int) != IntKind.wrap .i64 ((↑0 : Int) - 0))
  (some (2, (CS.mk [(AV.bool (false))] [])))
  (some (0, (sN nd sf (List.length (outV (fun x => !qbV (leastV nd sf rd (heSV (heUV nd sf rd (fo f i 6) (fo f i 3)) (fo f i 6) hs) (heFV (heUV nd sf rd (fo f i 6) (fo f i 3)) (fo f i 6) (fo f i 3) hs hf)) x) bd 0)) (finW ((outV (fun x => !qbV (leastV nd sf rd (heSV (heUV nd sf rd (fo f i 6) (fo f i 3)) (fo f i 6) hs) (heFV (heUV nd sf rd (fo f i 6) (fo f i 3)) (fo f i 6) (fo f i 3) hs hf)) x) bd 0))) rd (heSV (heUV nd sf rd (fo f i 6) (fo f i 3)) (fo f i 6) hs) (heFV (heUV nd sf rd (fo f i 6) (fo f i 3)) (fo f i 6) (fo f i 3) hs hf) (caF ca (↑(List.length (outV (fun x => !qbV (leastV nd sf rd (heSV (heUV nd sf rd (fo f i 6) (fo f i 3)) (fo f i 6) hs) (heFV (heUV nd sf rd (fo f i 6) (fo f i 3)) (fo f i 6) (fo f i 3) hs hf)) x) bd 0)) : Int) (↑0 : Int)) (IntKind.wrap .i64 (to + 0)) nl n f (IntKind.wrap .i64 ((↑i : Int) + 1)))))) none))))
  none) none) none))
  (cond (Nat.beq (List.length (outV (fun x => !qbV (leastV nd sf rd (heSV (heUV nd sf rd (fo f i 6) (fo f i 3)) (fo f i 6) hs) (heFV (heUV nd sf rd (fo f i 6) (fo f i 3)) (fo f i 6) (fo f i 3) hs hf)) x) bd 0)) 0)
  (cond (decide (fo f i 0 > 1) == false) none (cond (decide (fo f i 0 > 1) == false) none (cond (decide (fo f i 0 > 1) == false) none (cond (decide (fo f i 0 > 1)) (cond ((↑0 : Int) != IntKind.wrap .i64 ((↑0 : Int) - (↑(List.length (outV (qbV (leastV nd sf rd (heSV (heUV nd sf rd (fo f i 6) (fo f i 3)) (fo f i 6) hs) (heFV (heUV nd sf rd (fo f i 6) (fo f i 3)) (fo f i 6) (fo f i 3) hs hf))) bd 0)) : Int)))
  (some (2, (CS.mk [(AV.bool (false))] [])))
  (some (0, (s0 nd sf rd (heSV (heUV nd sf rd (fo f i 6) (fo f i 3)) (fo f i 6) hs) (heFV (heUV nd sf rd (fo f i 6) (fo f i 3)) (fo f i 6) (fo f i 3) hs hf) (caF ca (↑0 : Int) (↑0 : Int)) (IntKind.wrap .i64 (to + (↑(List.length (outV (qbV (leastV nd sf rd (heSV (heUV nd sf rd (fo f i 6) (fo f i 3)) (fo f i 6) hs) (heFV (heUV nd sf rd (fo f i 6) (fo f i 3)) (fo f i 6) (fo f i 3) hs hf))) bd 0)) : Int))) nl n f (IntKind.wrap .i64 ((↑i : Int) + 1)))))) none))))
  (cond (decide (List.length (outV (fun x => !qbV (leastV nd sf rd (heSV (heUV nd sf rd (fo f i 6) (fo f i 3)) (fo f i 6) hs) (heFV (heUV nd sf rd (fo f i 6) (fo f i 3)) (fo f i 6) (fo f i 3) hs hf)) x) bd 0) = List.length (outV (fun x => !qbV (leastV nd sf rd (heSV (heUV nd sf rd (fo f i 6) (fo f i 3)) (fo f i 6) hs) (heFV (heUV nd sf rd (fo f i 6) (fo f i 3)) (fo f i 6) (fo f i 3) hs hf)) x) bd 0))) (cond (decide (List.length (outV (fun x => !qbV (leastV nd sf rd (heSV (heUV nd sf rd (fo f i 6) (fo f i 3)) (fo f i 6) hs) (heFV (heUV nd sf rd (fo f i 6) (fo f i 3)) (fo f i 6) (fo f i 3) hs hf)) x) bd 0) = List.length (outV (fun x => !qbV (leastV nd sf rd (heSV (heUV nd sf rd (fo f i 6) (fo f i 3)) (fo f i 6) hs) (heFV (heUV nd sf rd (fo f i 6) (fo f i 3)) (fo f i 6) (fo f i 3) hs hf)) x) bd 0))) (cond (Nat.ble (List.length (outV (fun x => !qbV (leastV nd sf rd (heSV (heUV nd sf rd (fo f i 6) (fo f i 3)) (fo f i 6) hs) (heFV (heUV nd sf rd (fo f i 6) (fo f i 3)) (fo f i 6) (fo f i 3) hs hf)) x) bd 0)) 1000)
  (cond (decide (fo f i 0 > 1) == false) none (cond (decide (fo f i 0 > 1) == false) none (cond (decide (fo f i 0 > 1) == false) none (cond (decide (fo f i 0 > 1)) (cond ((↑(List.length (outV (fun x => !qbV (leastV nd sf rd (heSV (heUV nd sf rd (fo f i 6) (fo f i 3)) (fo f i 6) hs) (heFV (heUV nd sf rd (fo f i 6) (fo f i 3)) (fo f i 6) (fo f i 3) hs hf)) x) bd 0)) : Int) != IntKind.wrap .i64 ((↑0 : Int) - (↑(List.length (outV (qbV (leastV nd sf rd (heSV (heUV nd sf rd (fo f i 6) (fo f i 3)) (fo f i 6) hs) (heFV (heUV nd sf rd (fo f i 6) (fo f i 3)) (fo f i 6) (fo f i 3) hs hf))) bd 0)) : Int)))
  (some (2, (CS.mk [(AV.bool (false))] [])))
  (some (0, (sN nd sf (List.length (outV (fun x => !qbV (leastV nd sf rd (heSV (heUV nd sf rd (fo f i 6) (fo f i 3)) (fo f i 6) hs) (heFV (heUV nd sf rd (fo f i 6) (fo f i 3)) (fo f i 6) (fo f i 3) hs hf)) x) bd 0)) (finW ((outV (fun x => !qbV (leastV nd sf rd (heSV (heUV nd sf rd (fo f i 6) (fo f i 3)) (fo f i 6) hs) (heFV (heUV nd sf rd (fo f i 6) (fo f i 3)) (fo f i 6) (fo f i 3) hs hf)) x) bd 0))) rd (heSV (heUV nd sf rd (fo f i 6) (fo f i 3)) (fo f i 6) hs) (heFV (heUV nd sf rd (fo f i 6) (fo f i 3)) (fo f i 6) (fo f i 3) hs hf) (caF ca (↑(List.length (outV (fun x => !qbV (leastV nd sf rd (heSV (heUV nd sf rd (fo f i 6) (fo f i 3)) (fo f i 6) hs) (heFV (heUV nd sf rd (fo f i 6) (fo f i 3)) (fo f i 6) (fo f i 3) hs hf)) x) bd 0)) : Int) (↑0 : Int)) (IntKind.wrap .i64 (to + (↑(List.length (outV (qbV (leastV nd sf rd (heSV (heUV nd sf rd (fo f i 6) (fo f i 3)) (fo f i 6) hs) (heFV (heUV nd sf rd (fo f i 6) (fo f i 3)) (fo f i 6) (fo f i 3) hs hf))) bd 0)) : Int))) nl n f (IntKind.wrap .i64 ((↑i : Int) + 1)))))) none))))
  none) none) none))) none) none) none)))) none) none) none) := by kernel_rfl
theorem s4nk3_eq (nd : Int) (sf : Int) (rd : Int) (hs : AV → Bool) (hf : AV → Nat → AV) (ca : Int) (to : Int) (nl : Bool) (n : Nat) (f : Nat → Nat → AV) (i : Nat) (hy0 : (decide ((↑i : Int) < (↑n : Int))) = true) (hy1 : (Nat.blt (0 + Int.toNat (↑i : Int)) n) = true) (hy2 : (decide (1 ≤ nd)) = true) (hy3 : (decide (nd ≤ 7)) = true) (hy4 : (fo f i 0 == 0) = false) (hy5 : (fo f i 0 == 1) = false) (hy6 : (fo f i 0 == 2) = false) (hy7 : (fo f i 0 == 3) = true) (hy8 : (decide (fo f i 0 > 1)) = true) : s4nk3 nd sf rd hs hf ca to nl n f i s4nk3_p = (cond (Nat.beq (List.length (outV (qbV (leastV nd sf rd (heSV (heUV nd sf rd (fo f i 6) (fo f i 3)) (fo f i 6) hs) (heFV (heUV nd sf rd (fo f i 6) (fo f i 3)) (fo f i 6) (fo f i 3) hs hf))) bd 0)) 0)
  (cond (Nat.beq (List.length (outV (fun x => !qbV (leastV nd sf rd (heSV (heUV nd sf rd (fo f i 6) (fo f i 3)) (fo f i 6) hs) (heFV (heUV nd sf rd (fo f i 6) (fo f i 3)) (fo f i 6) (fo f i 3) hs hf)) x) bd 0)) 0)
  (some (0, (s0 nd sf rd (heSV (heUV nd sf rd (fo f i 6) (fo f i 3)) (fo f i 6) hs) (heFV (heUV nd sf rd (fo f i 6) (fo f i 3)) (fo f i 6) (fo f i 3) hs hf) (caF ca (↑0 : Int) (↑0 : Int)) (IntKind.wrap .i64 (to + 0)) nl n f (IntKind.wrap .i64 ((↑i : Int) + 1)))))
  (cond (Nat.ble (List.length (outV (fun x => !qbV (leastV nd sf rd (heSV (heUV nd sf rd (fo f i 6) (fo f i 3)) (fo f i 6) hs) (heFV (heUV nd sf rd (fo f i 6) (fo f i 3)) (fo f i 6) (fo f i 3) hs hf)) x) bd 0)) 1000)
  (cond ((↑(List.length (outV (fun x => !qbV (leastV nd sf rd (heSV (heUV nd sf rd (fo f i 6) (fo f i 3)) (fo f i 6) hs) (heFV (heUV nd sf rd (fo f i 6) (fo f i 3)) (fo f i 6) (fo f i 3) hs hf)) x) bd 0)) : Int) != IntKind.wrap .i64 ((↑0 : Int) - 0))
  (some (2, (CS.mk [(AV.bool (false))] [])))
  (some (0, (sN nd sf (List.length (outV (fun x => !qbV (leastV nd sf rd (heSV (heUV nd sf rd (fo f i 6) (fo f i 3)) (fo f i 6) hs) (heFV (heUV nd sf rd (fo f i 6) (fo f i 3)) (fo f i 6) (fo f i 3) hs hf)) x) bd 0)) (finW ((outV (fun x => !qbV (leastV nd sf rd (heSV (heUV nd sf rd (fo f i 6) (fo f i 3)) (fo f i 6) hs) (heFV (heUV nd sf rd (fo f i 6) (fo f i 3)) (fo f i 6) (fo f i 3) hs hf)) x) bd 0))) rd (heSV (heUV nd sf rd (fo f i 6) (fo f i 3)) (fo f i 6) hs) (heFV (heUV nd sf rd (fo f i 6) (fo f i 3)) (fo f i 6) (fo f i 3) hs hf) (caF ca (↑(List.length (outV (fun x => !qbV (leastV nd sf rd (heSV (heUV nd sf rd (fo f i 6) (fo f i 3)) (fo f i 6) hs) (heFV (heUV nd sf rd (fo f i 6) (fo f i 3)) (fo f i 6) (fo f i 3) hs hf)) x) bd 0)) : Int) (↑0 : Int)) (IntKind.wrap .i64 (to + 0)) nl n f (IntKind.wrap .i64 ((↑i : Int) + 1))))))
  none))
  (cond (Nat.beq (List.length (outV (fun x => !qbV (leastV nd sf rd (heSV (heUV nd sf rd (fo f i 6) (fo f i 3)) (fo f i 6) hs) (heFV (heUV nd sf rd (fo f i 6) (fo f i 3)) (fo f i 6) (fo f i 3) hs hf)) x) bd 0)) 0)
  (cond ((↑0 : Int) != IntKind.wrap .i64 ((↑0 : Int) - (↑(List.length (outV (qbV (leastV nd sf rd (heSV (heUV nd sf rd (fo f i 6) (fo f i 3)) (fo f i 6) hs) (heFV (heUV nd sf rd (fo f i 6) (fo f i 3)) (fo f i 6) (fo f i 3) hs hf))) bd 0)) : Int)))
  (some (2, (CS.mk [(AV.bool (false))] [])))
  (some (0, (s0 nd sf rd (heSV (heUV nd sf rd (fo f i 6) (fo f i 3)) (fo f i 6) hs) (heFV (heUV nd sf rd (fo f i 6) (fo f i 3)) (fo f i 6) (fo f i 3) hs hf) (caF ca (↑0 : Int) (↑0 : Int)) (IntKind.wrap .i64 (to + (↑(List.length (outV (qbV (leastV nd sf rd (heSV (heUV nd sf rd (fo f i 6) (fo f i 3)) (fo f i 6) hs) (heFV (heUV nd sf rd (fo f i 6) (fo f i 3)) (fo f i 6) (fo f i 3) hs hf))) bd 0)) : Int))) nl n f (IntKind.wrap .i64 ((↑i : Int) + 1))))))
  (cond (Nat.ble (List.length (outV (fun x => !qbV (leastV nd sf rd (heSV (heUV nd sf rd (fo f i 6) (fo f i 3)) (fo f i 6) hs) (heFV (heUV nd sf rd (fo f i 6) (fo f i 3)) (fo f i 6) (fo f i 3) hs hf)) x) bd 0)) 1000)
  (cond ((↑(List.length (outV (fun x => !qbV (leastV nd sf rd (heSV (heUV nd sf rd (fo f i 6) (fo f i 3)) (fo f i 6) hs) (heFV (heUV nd sf rd (fo f i 6) (fo f i 3)) (fo f i 6) (fo f i 3) hs hf)) x) bd 0)) : Int) != IntKind.wrap .i64 ((↑0 : Int) - (↑(List.length (outV (qbV (leastV nd sf rd (heSV (heUV nd sf rd (fo f i 6) (fo f i 3)) (fo f i 6) hs) (heFV (heUV nd sf rd (fo f i 6) (fo f i 3)) (fo f i 6) (fo f i 3) hs hf))) bd 0)) : Int)))
  (some (2, (CS.mk [(AV.bool (false))] [])))
  (some (0, (sN nd sf (List.length (outV (fun x => !qbV (leastV nd sf rd (heSV (heUV nd sf rd (fo f i 6) (fo f i 3)) (fo f i 6) hs) (heFV (heUV nd sf rd (fo f i 6) (fo f i 3)) (fo f i 6) (fo f i 3) hs hf)) x) bd 0)) (finW ((outV (fun x => !qbV (leastV nd sf rd (heSV (heUV nd sf rd (fo f i 6) (fo f i 3)) (fo f i 6) hs) (heFV (heUV nd sf rd (fo f i 6) (fo f i 3)) (fo f i 6) (fo f i 3) hs hf)) x) bd 0))) rd (heSV (heUV nd sf rd (fo f i 6) (fo f i 3)) (fo f i 6) hs) (heFV (heUV nd sf rd (fo f i 6) (fo f i 3)) (fo f i 6) (fo f i 3) hs hf) (caF ca (↑(List.length (outV (fun x => !qbV (leastV nd sf rd (heSV (heUV nd sf rd (fo f i 6) (fo f i 3)) (fo f i 6) hs) (heFV (heUV nd sf rd (fo f i 6) (fo f i 3)) (fo f i 6) (fo f i 3) hs hf)) x) bd 0)) : Int) (↑0 : Int)) (IntKind.wrap .i64 (to + (↑(List.length (outV (qbV (leastV nd sf rd (heSV (heUV nd sf rd (fo f i 6) (fo f i 3)) (fo f i 6) hs) (heFV (heUV nd sf rd (fo f i 6) (fo f i 3)) (fo f i 6) (fo f i 3) hs hf))) bd 0)) : Int))) nl n f (IntKind.wrap .i64 ((↑i : Int) + 1))))))
  none))) := by
  rw [s4nk3_is]
  try simp only [hy0, hy1, hy2, hy3, hy4, hy5, hy6, hy7, hy8, eq_self, decide_true, beq_self_eq_true, Nat.beq_refl, ble_self, Int.le_refl, Nat.le_refl]
  cases (Nat.beq (List.length (outV (qbV (leastV nd sf rd (heSV (heUV nd sf rd (fo f i 6) (fo f i 3)) (fo f i 6) hs) (heFV (heUV nd sf rd (fo f i 6) (fo f i 3)) (fo f i 6) (fo f i 3) hs hf))) bd 0)) 0) with
  | true =>
    cases (Nat.beq (List.length (outV (fun x => !qbV (leastV nd sf rd (heSV (heUV nd sf rd (fo f i 6) (fo f i 3)) (fo f i 6) hs) (heFV (heUV nd sf rd (fo f i 6) (fo f i 3)) (fo f i 6) (fo f i 3) hs hf)) x) bd 0)) 0) with
    | true =>
      rfl
    | false =>
      cases (Nat.ble (List.length (outV (fun x => !qbV (leastV nd sf rd (heSV (heUV nd sf rd (fo f i 6) (fo f i 3)) (fo f i 6) hs) (heFV (heUV nd sf rd (fo f i 6) (fo f i 3)) (fo f i 6) (fo f i 3) hs hf)) x) bd 0)) 1000) with
      | true =>
        cases ((↑(List.length (outV (fun x => !qbV (leastV nd sf rd (heSV (heUV nd sf rd (fo f i 6) (fo f i 3)) (fo f i 6) hs) (heFV (heUV nd sf rd (fo f i 6) (fo f i 3)) (fo f i 6) (fo f i 3) hs hf)) x) bd 0)) : Int) != IntKind.wrap .i64 ((↑0 : Int) - 0)) with
        | true =>
          rfl
        | false =>
          rfl
      | false =>
        rfl
  | false =>
    cases (Nat.beq (List.length (outV (fun x => !qbV (leastV nd sf rd (heSV (heUV nd sf rd (fo f i 6) (fo f i 3)) (fo f i 6) hs) (heFV (heUV nd sf rd (fo f i 6) (fo f i 3)) (fo f i 6) (fo f i 3) hs hf)) x) bd 0)) 0) with
    | true =>
      cases ((↑0 : Int) != IntKind.wrap .i64 ((↑0 : Int) - (↑(List.length (outV (qbV (leastV nd sf rd (heSV (heUV nd sf rd (fo f i 6) (fo f i 3)) (fo f i 6) hs) (heFV (heUV nd sf rd (fo f i 6) (fo f i 3)) (fo f i 6) (fo f i 3) hs hf))) bd 0)) : Int))) with
      | true =>
        rfl
      | false =>
        rfl
    | false =>
      cases (Nat.ble (List.length (outV (fun x => !qbV (leastV nd sf rd (heSV (heUV nd sf rd (fo f i 6) (fo f i 3)) (fo f i 6) hs) (heFV (heUV nd sf rd (fo f i 6) (fo f i 3)) (fo f i 6) (fo f i 3) hs hf)) x) bd 0)) 1000) with
      | true =>
        cases ((↑(List.length (outV (fun x => !qbV (leastV nd sf rd (heSV (heUV nd sf rd (fo f i 6) (fo f i 3)) (fo f i 6) hs) (heFV (heUV nd sf rd (fo f i 6) (fo f i 3)) (fo f i 6) (fo f i 3) hs hf)) x) bd 0)) : Int) != IntKind.wrap .i64 ((↑0 : Int) - (↑(List.length (outV (qbV (leastV nd sf rd (heSV (heUV nd sf rd (fo f i 6) (fo f i 3)) (fo f i 6) hs) (heFV (heUV nd sf rd (fo f i 6) (fo f i 3)) (fo f i 6) (fo f i 3) hs hf))) bd 0)) : Int))) with
        | true =>
          rfl
        | false =>
          rfl
      | false =>
        rfl
noncomputable def s4nk4 (nd : Int) (sf : Int) (rd : Int) (hs : AV → Bool) (hf : AV → Nat → AV) (ca : Int) (to : Int) (nl : Bool) (n : Nat) (f : Nat → Nat → AV) (i : Nat) (π : Plan) : Option (Nat × CS) := stepC (FA) (600) (loopC FA 4 0) (0) (h4) ((.normal, h4) :: x4) π (c4n nd sf rd hs hf ca to nl n f i)
def s4nk4_p : Plan := (.must true (.reck 1 (.must true (.must true (.reck 8 (.must false (.must false (.must false (.must false (.reck 6 (.must true (.must true (.reck 2 (.fork (.fork (.reck 10 (.must false (.must false (.must false (.must true .stop))))) (.reck 2 (.must true (.reck 1 (.must true (.reck 3 (.fork (.reck 1 (.must false (.must false (.must false (.must true (.reck 1 (.fork .stop .stop))))))) .stop))))))) (.fork (.reck 10 (.must false (.must false (.must false (.must true (.reck 1 (.fork .stop .stop))))))) (.reck 2 (.must true (.reck 1 (.must true (.reck 3 (.fork (.reck 1 (.must false (.must false (.must false (.must true (.reck 1 (.fork .stop .stop))))))) .stop)))))))))))))))))))))
theorem s4nk4_is (nd : Int) (sf : Int) (rd : Int) (hs : AV → Bool) (hf : AV → Nat → AV) (ca : Int) (to : Int) (nl : Bool) (n : Nat) (f : Nat → Nat → AV) (i : Nat) : s4nk4 nd sf rd hs hf ca to nl n f i s4nk4_p = (cond (decide ((↑i : Int) < (↑n : Int))) (cond (decide ((↑i : Int) < (↑n : Int))) (cond (Nat.blt (0 + Int.toNat (↑i : Int)) n) (cond (fo f i 0 == 0) none (cond (fo f i 0 == 1) none (cond (fo f i 0 == 2) none (cond (fo f i 0 == 3) none (cond (decide (1 ≤ nd)) (cond (decide (nd ≤ 7)) (cond (Nat.beq (List.length (outV (qcV (fo f i 7) (fo f i 8)) bd 0)) 0)
  (cond (Nat.beq (List.length (outV (fun x => !qcV (fo f i 7) (fo f i 8) x) bd 0)) 0)
  (cond (decide (fo f i 0 > 1) == false) none (cond (decide (fo f i 0 > 1) == false) none (cond (decide (fo f i 0 > 1) == false) none (cond (decide (fo f i 0 > 1)) (some (0, (s0 nd sf rd hs hf (caF ca (↑0 : Int) (↑0 : Int)) (IntKind.wrap .i64 (to + 0)) nl n f (IntKind.wrap .i64 ((↑i : Int) + 1))))) none))))
  (cond (decide (List.length (outV (fun x => !qcV (fo f i 7) (fo f i 8) x) bd 0) = List.length (outV (fun x => !qcV (fo f i 7) (fo f i 8) x) bd 0))) (cond (decide (List.length (outV (fun x => !qcV (fo f i 7) (fo f i 8) x) bd 0) = List.length (outV (fun x => !qcV (fo f i 7) (fo f i 8) x) bd 0))) (cond (Nat.ble (List.length (outV (fun x => !qcV (fo f i 7) (fo f i 8) x) bd 0)) 1000)
  (cond (decide (fo f i 0 > 1) == false) none (cond (decide (fo f i 0 > 1) == false) none (cond (decide (fo f i 0 > 1) == false) none (cond (decide (fo f i 0 > 1)) (cond ((↑(List.length (outV (fun x => !qcV (fo f i 7) (fo f i 8) x) bd 0)) : Int) != IntKind.wrap .i64 ((↑0 : Int) - 0))
  (some (2, (CS.mk [(AV.bool (false))] [])))
  (some (0, (sN nd sf (List.length (outV (fun x => !qcV (fo f i 7) (fo f i 8) x) bd 0)) (finW ((outV (fun x => !qcV (fo f i 7) (fo f i 8) x) bd 0))) rd hs hf (caF ca (↑(List.length (outV (fun x => !qcV (fo f i 7) (fo f i 8) x) bd 0)) : Int) (↑0 : Int)) (IntKind.wrap .i64 (to + 0)) nl n f (IntKind.wrap .i64 ((↑i : Int) + 1)))))) none))))
  none) none) none))
  (cond (Nat.beq (List.length (outV (fun x => !qcV (fo f i 7) (fo f i 8) x) bd 0)) 0)
  (cond (decide (fo f i 0 > 1) == false) none (cond (decide (fo f i 0 > 1) == false) none (cond (decide (fo f i 0 > 1) == false) none (cond (decide (fo f i 0 > 1)) (cond ((↑0 : Int) != IntKind.wrap .i64 ((↑0 : Int) - (↑(List.length (outV (qcV (fo f i 7) (fo f i 8)) bd 0)) : Int)))
  (some (2, (CS.mk [(AV.bool (false))] [])))
  (some (0, (s0 nd sf rd hs hf (caF ca (↑0 : Int) (↑0 : Int)) (IntKind.wrap .i64 (to + (↑(List.length (outV (qcV (fo f i 7) (fo f i 8)) bd 0)) : Int))) nl n f (IntKind.wrap .i64 ((↑i : Int) + 1)))))) none))))
  (cond (decide (List.length (outV (fun x => !qcV (fo f i 7) (fo f i 8) x) bd 0) = List.length (outV (fun x => !qcV (fo f i 7) (fo f i 8) x) bd 0))) (cond (decide (List.length (outV (fun x => !qcV (fo f i 7) (fo f i 8) x) bd 0) = List.length (outV (fun x => !qcV (fo f i 7) (fo f i 8) x) bd 0))) (cond (Nat.ble (List.length (outV (fun x => !qcV (fo f i 7) (fo f i 8) x) bd 0)) 1000)
  (cond (decide (fo f i 0 > 1) == false) none (cond (decide (fo f i 0 > 1) == false) none (cond (decide (fo f i 0 > 1) == false) none (cond (decide (fo f i 0 > 1)) (cond ((↑(List.length (outV (fun x => !qcV (fo f i 7) (fo f i 8) x) bd 0)) : Int) != IntKind.wrap .i64 ((↑0 : Int) - (↑(List.length (outV (qcV (fo f i 7) (fo f i 8)) bd 0)) : Int)))
  (some (2, (CS.mk [(AV.bool (false))] [])))
  (some (0, (sN nd sf (List.length (outV (fun x => !qcV (fo f i 7) (fo f i 8) x) bd 0)) (finW ((outV (fun x => !qcV (fo f i 7) (fo f i 8) x) bd 0))) rd hs hf (caF ca (↑(List.length (outV (fun x => !qcV (fo f i 7) (fo f i 8) x) bd 0)) : Int) (↑0 : Int)) (IntKind.wrap .i64 (to + (↑(List.length (outV (qcV (fo f i 7) (fo f i 8)) bd 0)) : Int))) nl n f (IntKind.wrap .i64 ((↑i : Int) + 1)))))) none))))
  none) none) none))) none) none))))) none) none) none) := by kernel_rfl
theorem s4nk4_eq (nd : Int) (sf : Int) (rd : Int) (hs : AV → Bool) (hf : AV → Nat → AV) (ca : Int) (to : Int) (nl : Bool) (n : Nat) (f : Nat → Nat → AV) (i : Nat) (hy0 : (decide ((↑i : Int) < (↑n : Int))) = true) (hy1 : (Nat.blt (0 + Int.toNat (↑i : Int)) n) = true) (hy2 : (decide (1 ≤ nd)) = true) (hy3 : (decide (nd ≤ 7)) = true) (hy4 : (fo f i 0 == 0) = false) (hy5 : (fo f i 0 == 1) = false) (hy6 : (fo f i 0 == 2) = false) (hy7 : (fo f i 0 == 3) = false) (hy8 : (decide (fo f i 0 > 1)) = true) : s4nk4 nd sf rd hs hf ca to nl n f i s4nk4_p = (cond (Nat.beq (List.length (outV (qcV (fo f i 7) (fo f i 8)) bd 0)) 0)
  (cond (Nat.beq (List.length (outV (fun x => !qcV (fo f i 7) (fo f i 8) x) bd 0)) 0)
  (some (0, (s0 nd sf rd hs hf (caF ca (↑0 : Int) (↑0 : Int)) (IntKind.wrap .i64 (to + 0)) nl n f (IntKind.wrap .i64 ((↑i : Int) + 1)))))
  (cond (Nat.ble (List.length (outV (fun x => !qcV (fo f i 7) (fo f i 8) x) bd 0)) 1000)
  (cond ((↑(List.length (outV (fun x => !qcV (fo f i 7) (fo f i 8) x) bd 0)) : Int) != IntKind.wrap .i64 ((↑0 : Int) - 0))
  (some (2, (CS.mk [(AV.bool (false))] [])))
  (some (0, (sN nd sf (List.length (outV (fun x => !qcV (fo f i 7) (fo f i 8) x) bd 0)) (finW ((outV (fun x => !qcV (fo f i 7) (fo f i 8) x) bd 0))) rd hs hf (caF ca (↑(List.length (outV (fun x => !qcV (fo f i 7) (fo f i 8) x) bd 0)) : Int) (↑0 : Int)) (IntKind.wrap .i64 (to + 0)) nl n f (IntKind.wrap .i64 ((↑i : Int) + 1))))))
  none))
  (cond (Nat.beq (List.length (outV (fun x => !qcV (fo f i 7) (fo f i 8) x) bd 0)) 0)
  (cond ((↑0 : Int) != IntKind.wrap .i64 ((↑0 : Int) - (↑(List.length (outV (qcV (fo f i 7) (fo f i 8)) bd 0)) : Int)))
  (some (2, (CS.mk [(AV.bool (false))] [])))
  (some (0, (s0 nd sf rd hs hf (caF ca (↑0 : Int) (↑0 : Int)) (IntKind.wrap .i64 (to + (↑(List.length (outV (qcV (fo f i 7) (fo f i 8)) bd 0)) : Int))) nl n f (IntKind.wrap .i64 ((↑i : Int) + 1))))))
  (cond (Nat.ble (List.length (outV (fun x => !qcV (fo f i 7) (fo f i 8) x) bd 0)) 1000)
  (cond ((↑(List.length (outV (fun x => !qcV (fo f i 7) (fo f i 8) x) bd 0)) : Int) != IntKind.wrap .i64 ((↑0 : Int) - (↑(List.length (outV (qcV (fo f i 7) (fo f i 8)) bd 0)) : Int)))
  (some (2, (CS.mk [(AV.bool (false))] [])))
  (some (0, (sN nd sf (List.length (outV (fun x => !qcV (fo f i 7) (fo f i 8) x) bd 0)) (finW ((outV (fun x => !qcV (fo f i 7) (fo f i 8) x) bd 0))) rd hs hf (caF ca (↑(List.length (outV (fun x => !qcV (fo f i 7) (fo f i 8) x) bd 0)) : Int) (↑0 : Int)) (IntKind.wrap .i64 (to + (↑(List.length (outV (qcV (fo f i 7) (fo f i 8)) bd 0)) : Int))) nl n f (IntKind.wrap .i64 ((↑i : Int) + 1))))))
  none))) := by
  rw [s4nk4_is]
  try simp only [hy0, hy1, hy2, hy3, hy4, hy5, hy6, hy7, hy8, eq_self, decide_true, beq_self_eq_true, Nat.beq_refl, ble_self, Int.le_refl, Nat.le_refl]
  cases (Nat.beq (List.length (outV (qcV (fo f i 7) (fo f i 8)) bd 0)) 0) with
  | true =>
    cases (Nat.beq (List.length (outV (fun x => !qcV (fo f i 7) (fo f i 8) x) bd 0)) 0) with
    | true =>
      rfl
    | false =>
      cases (Nat.ble (List.length (outV (fun x => !qcV (fo f i 7) (fo f i 8) x) bd 0)) 1000) with
      | true =>
        cases ((↑(List.length (outV (fun x => !qcV (fo f i 7) (fo f i 8) x) bd 0)) : Int) != IntKind.wrap .i64 ((↑0 : Int) - 0)) with
        | true =>
          rfl
        | false =>
          rfl
      | false =>
        rfl
  | false =>
    cases (Nat.beq (List.length (outV (fun x => !qcV (fo f i 7) (fo f i 8) x) bd 0)) 0) with
    | true =>
      cases ((↑0 : Int) != IntKind.wrap .i64 ((↑0 : Int) - (↑(List.length (outV (qcV (fo f i 7) (fo f i 8)) bd 0)) : Int))) with
      | true =>
        rfl
      | false =>
        rfl
    | false =>
      cases (Nat.ble (List.length (outV (fun x => !qcV (fo f i 7) (fo f i 8) x) bd 0)) 1000) with
      | true =>
        cases ((↑(List.length (outV (fun x => !qcV (fo f i 7) (fo f i 8) x) bd 0)) : Int) != IntKind.wrap .i64 ((↑0 : Int) - (↑(List.length (outV (qcV (fo f i 7) (fo f i 8)) bd 0)) : Int))) with
        | true =>
          rfl
        | false =>
          rfl
      | false =>
        rfl
noncomputable def s4nk5 (nd : Int) (sf : Int) (rd : Int) (hs : AV → Bool) (hf : AV → Nat → AV) (ca : Int) (to : Int) (nl : Bool) (n : Nat) (f : Nat → Nat → AV) (i : Nat) (π : Plan) : Option (Nat × CS) := stepC (FA) (600) (loopC FA 4 0) (0) (h4) ((.normal, h4) :: x4) π (c4n nd sf rd hs hf ca to nl n f i)
def s4nk5_p : Plan := (.must true (.reck 1 (.must true (.must true (.reck 8 (.must false (.must false (.must false (.must false (.reck 6 (.must true (.must true (.reck 2 (.fork (.fork (.reck 10 (.must true (.must true (.must true (.must false (.must true .stop)))))) (.reck 2 (.must true (.reck 1 (.must true (.reck 3 (.fork (.reck 1 (.must true (.must true (.must true (.must false (.must true (.fork .stop .stop))))))) .stop))))))) (.fork (.reck 10 (.must true (.must true (.must true (.must false (.must true (.fork .stop .stop))))))) (.reck 2 (.must true (.reck 1 (.must true (.reck 3 (.fork (.reck 1 (.must true (.must true (.must true (.must false (.must true (.fork .stop .stop))))))) .stop)))))))))))))))))))))
theorem s4nk5_is (nd : Int) (sf : Int) (rd : Int) (hs : AV → Bool) (hf : AV → Nat → AV) (ca : Int) (to : Int) (nl : Bool) (n : Nat) (f : Nat → Nat → AV) (i : Nat) : s4nk5 nd sf rd hs hf ca to nl n f i s4nk5_p = (cond (decide ((↑i : Int) < (↑n : Int))) (cond (decide ((↑i : Int) < (↑n : Int))) (cond (Nat.blt (0 + Int.toNat (↑i : Int)) n) (cond (fo f i 0 == 0) none (cond (fo f i 0 == 1) none (cond (fo f i 0 == 2) none (cond (fo f i 0 == 3) none (cond (decide (1 ≤ nd)) (cond (decide (nd ≤ 7)) (cond (Nat.beq (List.length (outV (qcV (fo f i 7) (fo f i 8)) bd 0)) 0)
  (cond (Nat.beq (List.length (outV (fun x => !qcV (fo f i 7) (fo f i 8) x) bd 0)) 0)
  (cond (decide (fo f i 0 > 1) == false) (cond (decide (fo f i 0 > 1) == false) (cond (decide (fo f i 0 > 1) == false) (cond (decide (fo f i 0 > 1)) none (cond (decide (fo f i 0 < 0)) (some (0, (s0 nd sf rd hs hf (caF ca (↑0 : Int) (↑0 : Int)) (IntKind.wrap .i64 (to + 0)) nl n f (IntKind.wrap .i64 ((↑i : Int) + 1))))) none)) none) none) none)
  (cond (decide (List.length (outV (fun x => !qcV (fo f i 7) (fo f i 8) x) bd 0) = List.length (outV (fun x => !qcV (fo f i 7) (fo f i 8) x) bd 0))) (cond (decide (List.length (outV (fun x => !qcV (fo f i 7) (fo f i 8) x) bd 0) = List.length (outV (fun x => !qcV (fo f i 7) (fo f i 8) x) bd 0))) (cond (Nat.ble (List.length (outV (fun x => !qcV (fo f i 7) (fo f i 8) x) bd 0)) 1000)
  (cond (decide (fo f i 0 > 1) == false) (cond (decide (fo f i 0 > 1) == false) (cond (decide (fo f i 0 > 1) == false) (cond (decide (fo f i 0 > 1)) none (cond (decide (fo f i 0 < 0)) (cond ((↑(List.length (outV (fun x => !qcV (fo f i 7) (fo f i 8) x) bd 0)) : Int) != IntKind.wrap .i64 ((↑0 : Int) - 0))
  (some (2, (CS.mk [(AV.bool (false))] [])))
  (some (0, (sN nd sf (List.length (outV (fun x => !qcV (fo f i 7) (fo f i 8) x) bd 0)) (finW ((outV (fun x => !qcV (fo f i 7) (fo f i 8) x) bd 0))) rd hs hf (caF ca (↑(List.length (outV (fun x => !qcV (fo f i 7) (fo f i 8) x) bd 0)) : Int) (↑0 : Int)) (IntKind.wrap .i64 (to + 0)) nl n f (IntKind.wrap .i64 ((↑i : Int) + 1)))))) none)) none) none) none)
  none) none) none))
  (cond (Nat.beq (List.length (outV (fun x => !qcV (fo f i 7) (fo f i 8) x) bd 0)) 0)
  (cond (decide (fo f i 0 > 1) == false) (cond (decide (fo f i 0 > 1) == false) (cond (decide (fo f i 0 > 1) == false) (cond (decide (fo f i 0 > 1)) none (cond (decide (fo f i 0 < 0)) (cond ((↑0 : Int) != IntKind.wrap .i64 ((↑0 : Int) - (↑(List.length (outV (qcV (fo f i 7) (fo f i 8)) bd 0)) : Int)))
  (some (2, (CS.mk [(AV.bool (false))] [])))
  (some (0, (s0 nd sf rd hs hf (caF ca (↑0 : Int) (↑0 : Int)) (IntKind.wrap .i64 (to + (↑(List.length (outV (qcV (fo f i 7) (fo f i 8)) bd 0)) : Int))) nl n f (IntKind.wrap .i64 ((↑i : Int) + 1)))))) none)) none) none) none)
  (cond (decide (List.length (outV (fun x => !qcV (fo f i 7) (fo f i 8) x) bd 0) = List.length (outV (fun x => !qcV (fo f i 7) (fo f i 8) x) bd 0))) (cond (decide (List.length (outV (fun x => !qcV (fo f i 7) (fo f i 8) x) bd 0) = List.length (outV (fun x => !qcV (fo f i 7) (fo f i 8) x) bd 0))) (cond (Nat.ble (List.length (outV (fun x => !qcV (fo f i 7) (fo f i 8) x) bd 0)) 1000)
  (cond (decide (fo f i 0 > 1) == false) (cond (decide (fo f i 0 > 1) == false) (cond (decide (fo f i 0 > 1) == false) (cond (decide (fo f i 0 > 1)) none (cond (decide (fo f i 0 < 0)) (cond ((↑(List.length (outV (fun x => !qcV (fo f i 7) (fo f i 8) x) bd 0)) : Int) != IntKind.wrap .i64 ((↑0 : Int) - (↑(List.length (outV (qcV (fo f i 7) (fo f i 8)) bd 0)) : Int)))
  (some (2, (CS.mk [(AV.bool (false))] [])))
  (some (0, (sN nd sf (List.length (outV (fun x => !qcV (fo f i 7) (fo f i 8) x) bd 0)) (finW ((outV (fun x => !qcV (fo f i 7) (fo f i 8) x) bd 0))) rd hs hf (caF ca (↑(List.length (outV (fun x => !qcV (fo f i 7) (fo f i 8) x) bd 0)) : Int) (↑0 : Int)) (IntKind.wrap .i64 (to + (↑(List.length (outV (qcV (fo f i 7) (fo f i 8)) bd 0)) : Int))) nl n f (IntKind.wrap .i64 ((↑i : Int) + 1)))))) none)) none) none) none)
  none) none) none))) none) none))))) none) none) none) := by kernel_rfl
theorem s4nk5_eq (nd : Int) (sf : Int) (rd : Int) (hs : AV → Bool) (hf : AV → Nat → AV) (ca : Int) (to : Int) (nl : Bool) (n : Nat) (f : Nat → Nat → AV) (i : Nat) (hy0 : (decide ((↑i : Int) < (↑n : Int))) = true) (hy1 : (Nat.blt (0 + Int.toNat (↑i : Int)) n) = true) (hy2 : (decide (1 ≤ nd)) = true) (hy3 : (decide (nd ≤ 7)) = true) (hy4 : (fo f i 0 == 0) = false) (hy5 : (fo f i 0 == 1) = false) (hy6 : (fo f i 0 == 2) = false) (hy7 : (fo f i 0 == 3) = false) (hy8 : (decide (fo f i 0 > 1)) = false) (hy9 : (decide (fo f i 0 < 0)) = true) : s4nk5 nd sf rd hs hf ca to nl n f i s4nk5_p = (cond (Nat.beq (List.length (outV (qcV (fo f i 7) (fo f i 8)) bd 0)) 0)
  (cond (Nat.beq (List.length (outV (fun x => !qcV (fo f i 7) (fo f i 8) x) bd 0)) 0)
  (some (0, (s0 nd sf rd hs hf (caF ca (↑0 : Int) (↑0 : Int)) (IntKind.wrap .i64 (to + 0)) nl n f (IntKind.wrap .i64 ((↑i : Int) + 1)))))
  (cond (Nat.ble (List.length (outV (fun x => !qcV (fo f i 7) (fo f i 8) x) bd 0)) 1000)
  (cond ((↑(List.length (outV (fun x => !qcV (fo f i 7) (fo f i 8) x) bd 0)) : Int) != IntKind.wrap .i64 ((↑0 : Int) - 0))
  (some (2, (CS.mk [(AV.bool (false))] [])))
  (some (0, (sN nd sf (List.length (outV (fun x => !qcV (fo f i 7) (fo f i 8) x) bd 0)) (finW ((outV (fun x => !qcV (fo f i 7) (fo f i 8) x) bd 0))) rd hs hf (caF ca (↑(List.length (outV (fun x => !qcV (fo f i 7) (fo f i 8) x) bd 0)) : Int) (↑0 : Int)) (IntKind.wrap .i64 (to + 0)) nl n f (IntKind.wrap .i64 ((↑i : Int) + 1))))))
  none))
  (cond (Nat.beq (List.length (outV (fun x => !qcV (fo f i 7) (fo f i 8) x) bd 0)) 0)
  (cond ((↑0 : Int) != IntKind.wrap .i64 ((↑0 : Int) - (↑(List.length (outV (qcV (fo f i 7) (fo f i 8)) bd 0)) : Int)))
  (some (2, (CS.mk [(AV.bool (false))] [])))
  (some (0, (s0 nd sf rd hs hf (caF ca (↑0 : Int) (↑0 : Int)) (IntKind.wrap .i64 (to + (↑(List.length (outV (qcV (fo f i 7) (fo f i 8)) bd 0)) : Int))) nl n f (IntKind.wrap .i64 ((↑i : Int) + 1))))))
  (cond (Nat.ble (List.length (outV (fun x => !qcV (fo f i 7) (fo f i 8) x) bd 0)) 1000)
  (cond ((↑(List.length (outV (fun x => !qcV (fo f i 7) (fo f i 8) x) bd 0)) : Int) != IntKind.wrap .i64 ((↑0 : Int) - (↑(List.length (outV (qcV (fo f i 7) (fo f i 8)) bd 0)) : Int)))
  (some (2, (CS.mk [(AV.bool (false))] [])))
  (some (0, (sN nd sf (List.length (outV (fun x => !qcV (fo f i 7) (fo f i 8) x) bd 0)) (finW ((outV (fun x => !qcV (fo f i 7) (fo f i 8) x) bd 0))) rd hs hf (caF ca (↑(List.length (outV (fun x => !qcV (fo f i 7) (fo f i 8) x) bd 0)) : Int) (↑0 : Int)) (IntKind.wrap .i64 (to + (↑(List.length (outV (qcV (fo f i 7) (fo f i 8)) bd 0)) : Int))) nl n f (IntKind.wrap .i64 ((↑i : Int) + 1))))))
  none))) := by
  rw [s4nk5_is]
  try simp only [hy0, hy1, hy2, hy3, hy4, hy5, hy6, hy7, hy8, hy9, eq_self, decide_true, beq_self_eq_true, Nat.beq_refl, ble_self, Int.le_refl, Nat.le_refl]
  cases (Nat.beq (List.length (outV (qcV (fo f i 7) (fo f i 8)) bd 0)) 0) with
  | true =>
    cases (Nat.beq (List.length (outV (fun x => !qcV (fo f i 7) (fo f i 8) x) bd 0)) 0) with
    | true =>
      rfl
    | false =>
      cases (Nat.ble (List.length (outV (fun x => !qcV (fo f i 7) (fo f i 8) x) bd 0)) 1000) with
      | true =>
        cases ((↑(List.length (outV (fun x => !qcV (fo f i 7) (fo f i 8) x) bd 0)) : Int) != IntKind.wrap .i64 ((↑0 : Int) - 0)) with
        | true =>
          rfl
        | false =>
          rfl
      | false =>
        rfl
  | false =>
    cases (Nat.beq (List.length (outV (fun x => !qcV (fo f i 7) (fo f i 8) x) bd 0)) 0) with
    | true =>
      cases ((↑0 : Int) != IntKind.wrap .i64 ((↑0 : Int) - (↑(List.length (outV (qcV (fo f i 7) (fo f i 8)) bd 0)) : Int))) with
      | true =>
        rfl
      | false =>
        rfl
    | false =>
      cases (Nat.ble (List.length (outV (fun x => !qcV (fo f i 7) (fo f i 8) x) bd 0)) 1000) with
      | true =>
        cases ((↑(List.length (outV (fun x => !qcV (fo f i 7) (fo f i 8) x) bd 0)) : Int) != IntKind.wrap .i64 ((↑0 : Int) - (↑(List.length (outV (qcV (fo f i 7) (fo f i 8)) bd 0)) : Int))) with
        | true =>
          rfl
        | false =>
          rfl
      | false =>
        rfl
end Go.Proofs.Ytgflmdjlpjjnaaa.desk
end
section
set_option linter.unusedSimpArgs false
set_option linter.unusedVariables false
set_option maxRecDepth 20000
namespace Go.Proofs.Ytgflmdjlpjjnaaa.desk
open Go Go.RowKit Go.Proofs.Ytgflmdjlpjjnaaa.Bm
structure DS where
  L : List Wt
  rd : Int
  hs : AV → Bool
  hf : AV → Nat → AV
  ca : Int
  to : Int
def dNew (L' : List Wt) (rd : Int) (hs : AV → Bool) (hf : AV → Nat → AV) (t : Int) (s : DS) : DS := ⟨L', rd, hs, hf, s.ca + max ((L'.length : Int) - s.L.length) 0, s.to + t⟩
noncomputable def wrL (a b x : Int) (L : List Wt) : List Wt := cond (x == 0) L (cond (Nat.blt (firstW (qdV a b) L) L.length) L (cond (Nat.ble 64 L.length) L (L ++ [⟨a, b, x, 0, 0, 0⟩])))
noncomputable def dStep (nd sf : Int) (f : Nat → Nat → AV) (i : Nat) (s : DS) : DS :=
  cond (fo f i 0 == 0) (dNew (wrL (fo f i 1) (fo f i 2) (fo f i 3) s.L) s.rd s.hs s.hf 0 s)
  (cond (fo f i 0 == 1) (cond (Nat.ble 64 (s.L.filter (fun x => !(qaV (fo f i 1) (fo f i 2) x))).length) (dNew (s.L.filter (fun x => !(qaV (fo f i 1) (fo f i 2) x))) s.rd s.hs s.hf 0 s)
    (dNew (s.L.filter (fun x => !(qaV (fo f i 1) (fo f i 2) x)) ++ [⟨fo f i 1, fo f i 2, 0, fo f i 4, fo f i 5, IntKind.wrap .u64 (s.rd + 1)⟩]) (IntKind.wrap .u64 (s.rd + 1)) s.hs s.hf 0 s))
  (cond (fo f i 0 == 2) (dNew s.L (IntKind.wrap .u64 (s.rd + 1)) s.hs s.hf 0 s)
  (cond (fo f i 0 == 3) (dNew (s.L.filter (fun x => !(qbV (leastV nd sf s.rd (heSV (heUV nd sf s.rd (fo f i 6) (fo f i 3)) (fo f i 6) s.hs) (heFV (heUV nd sf s.rd (fo f i 6) (fo f i 3)) (fo f i 6) (fo f i 3) s.hs s.hf)) x))) s.rd (heSV (heUV nd sf s.rd (fo f i 6) (fo f i 3)) (fo f i 6) s.hs) (heFV (heUV nd sf s.rd (fo f i 6) (fo f i 3)) (fo f i 6) (fo f i 3) s.hs s.hf)
      (s.L.filter (qbV (leastV nd sf s.rd (heSV (heUV nd sf s.rd (fo f i 6) (fo f i 3)) (fo f i 6) s.hs) (heFV (heUV nd sf s.rd (fo f i 6) (fo f i 3)) (fo f i 6) (fo f i 3) s.hs s.hf)))).length s)
    (dNew (s.L.filter (fun x => !(qcV (fo f i 7) (fo f i 8) x))) s.rd s.hs s.hf (s.L.filter (qcV (fo f i 7) (fo f i 8))).length s))))
noncomputable def dsAt (nd sf : Int) (f : Nat → Nat → AV) : Nat → DS
  | 0 => ⟨[], 0, fun _ => false, fun _ _ => .bad, 0, 0⟩
  | i + 1 => dStep nd sf f i (dsAt nd sf f i)
def okF (f : Nat → Nat → AV) (n : Nat) : Bool := okFrom (fun i => decide (0 ≤ (f i 3).toI)) 0 n
theorem okVE : ∃ q : (Nat → Nat → AV) → Nat → Bool, q = okF := ⟨_, rfl⟩
noncomputable def okV : (Nat → Nat → AV) → Nat → Bool := Classical.choose okVE
theorem okV_eq : okV = okF := Classical.choose_spec okVE
theorem dsVE : ∃ q : Int → Int → (Nat → Nat → AV) → Nat → DS, q = dsAt := ⟨_, rfl⟩
noncomputable def dsV : Int → Int → (Nat → Nat → AV) → Nat → DS := Classical.choose dsVE
theorem dsV_eq : dsV = dsAt := Classical.choose_spec dsVE
def i4 (nd : Int) (sf : Int) (wf : Nat → Nat → AV) (zc : Nat) (nl : Bool) (n : Nat) (f : Nat → Nat → AV) : CS :=
  ⟨[.ptr 0 0, .int .i64 0, .int .i64 0, .osl nl 1 0 n n 9 true, .int .i64 (n : Nat), .int .i64 0], [some (.cells [.int .i64 nd, .int .i64 sf, .osl true 2 0 0 0 6 true, .int .u64 0, .map 3] true), some (.tarr shO n f false), some (.tarr shW 0 wf true), some (.map [] zc)]⟩
noncomputable def r4B  (nd : Int) (sf : Int) (wf : Nat → Nat → AV) (zc : Nat) (nl : Bool) (n : Nat) (f : Nat → Nat → AV) : T (Nat × CS) :=
  chkT [decide (1 ≤ nd), decide (nd ≤ 7), Nat.ble n 200, okV f n] (.ask (Nat.beq (dsV nd sf f n).L.length 0) (.ret (1, ⟨[.ptr 0 0, .int .i64 (dsV nd sf f n).ca, .int .i64 (dsV nd sf f n).to], [some (.cells [.int .i64 nd, .int .i64 sf, .osl true 1 0 0 0 6 true, .int .u64 (dsV nd sf f n).rd, .map 2] true), some (.tarr shW 0 (fun _ _ => .bad) true), some (.omap shI shU false false [.int .u64 0] (dsV nd sf f n).hs (dsV nd sf f n).hf true)]⟩)) (.ret (1, ⟨[.ptr 0 0, .int .i64 (dsV nd sf f n).ca, .int .i64 (dsV nd sf f n).to], [some (.cells [.int .i64 nd, .int .i64 sf, .osl false 1 0 (dsV nd sf f n).L.length (dsV nd sf f n).L.length 6 true, .int .u64 (dsV nd sf f n).rd, .map 2] true), some (.tarr shW (dsV nd sf f n).L.length (finW (dsV nd sf f n).L) true), some (.omap shI shU false false [.int .u64 0] (dsV nd sf f n).hs (dsV nd sf f n).hf true)]⟩)))
noncomputable def r4  (c : CS) : T (Nat × CS) := match c with
  | ⟨[.ptr 0 0, .int .i64 z_1, .int .i64 z_2, .osl nl 1 0 n z_3 9 true, .int .i64 z_4, .int .i64 z_5], [some (.cells [.int .i64 nd, .int .i64 sf, .osl z_6 2 0 z_7 z_8 6 true, .int .u64 z_9, .map 3] true), some (.tarr sh_10 z_11 f false), some (.tarr sh_12 z_13 wf true), some (.map [] zc)]⟩ => chkT [decide (0 = z_1), decide (0 = z_2), decide (n = z_3), decide ((n : Nat) = z_4), decide (0 = z_5), decide (true = z_6), decide (0 = z_7), decide (0 = z_8), decide (0 = z_9), shBeq sh_10 shO, decide (n = z_11), shBeq sh_12 shW, decide (0 = z_13)] (r4B  nd sf wf zc nl n f)
  | _ => .fail
noncomputable def FB : Env := addL FA 4 0 1000010 h4 x4 0 r4
noncomputable def FC : Env := addF FB 6 livesI
theorem r4_inv  {c : CS} {r : Nat × CS} (h : (r4  c).run = some r) : ∃ nd sf wf zc nl n f, c = i4 nd sf wf zc nl n f ∧ (r4B  nd sf wf zc nl n f).run = some r := by
  unfold r4 at h
  split at h
  · rename_i z_1 z_2 nl n z_3 z_4 z_5 nd sf z_6 z_7 z_8 z_9 sh_10 z_11 f sh_12 z_13 wf zc
    obtain ⟨hc, hb⟩ := chkT_run h
    have h0 := hc 0 _ rfl
    have h0 := of_decide_eq_true h0; subst h0
    have h1 := hc 1 _ rfl
    have h1 := of_decide_eq_true h1; subst h1
    have h2 := hc 2 _ rfl
    have h2 := of_decide_eq_true h2; subst h2
    have h3 := hc 3 _ rfl
    have h3 := of_decide_eq_true h3; subst h3
    have h4 := hc 4 _ rfl
    have h4 := of_decide_eq_true h4; subst h4
    have h5 := hc 5 _ rfl
    have h5 := of_decide_eq_true h5; subst h5
    have h6 := hc 6 _ rfl
    have h6 := of_decide_eq_true h6; subst h6
    have h7 := hc 7 _ rfl
    have h7 := of_decide_eq_true h7; subst h7
    have h8 := hc 8 _ rfl
    have h8 := of_decide_eq_true h8; subst h8
    have h9 := hc 9 _ rfl
    have h9 := (shBeq_eq h9).symm; subst h9
    have h10 := hc 10 _ rfl
    have h10 := of_decide_eq_true h10; subst h10
    have h11 := hc 11 _ rfl
    have h11 := (shBeq_eq h11).symm; subst h11
    have h12 := hc 12 _ rfl
    have h12 := of_decide_eq_true h12; subst h12
    exact ⟨nd, sf, wf, zc, nl, n, f, rfl, hb⟩
  · cases h
theorem fo_eq (f : Nat → Nat → AV) (i j : Nat) : fo f i j = (f i j).toI := by
  unfold fo; rw [Nat.zero_add]; rfl
theorem ix0 (i : Nat) : 0 + Int.toNat (i : Int) = i := by rw [Nat.zero_add]; rfl
theorem rdW_zero (f : Nat → Nat → AV) : rdW f 0 = [] := rfl
theorem idx_fin (p : Wt → Bool) (L : List Wt) : idxV p (finW L) L.length = firstW p L := by rw [idxV_eq, idxF, rdW_fin]
theorem out_fin (q : Wt → Bool) (L : List Wt) : outV q (finW L) L.length = L.filter q := by rw [outV_eq, outX, rdW_fin]
theorem apd_ (L : List Wt) (x : Wt) : apdV L x = L ++ [x] := by rw [apdV_eq]; rfl
theorem wrs {x : Int} (h1 : -1000000 ≤ x) (h2 : x ≤ 1000000) : IntKind.wrap .i64 x = x := by
  by_cases h : 0 ≤ x
  · obtain ⟨m, rfl⟩ : ∃ m : Nat, x = m := ⟨x.toNat, by omega⟩
    exact i64_small (by omega)
  · unfold IntKind.wrap
    have hb : (2 ^ IntKind.i64.bits : Int) = 18446744073709551616 := by decide
    have hc : (2 ^ (IntKind.i64.bits - 1) : Int) = 9223372036854775808 := by decide
    have e : x % (18446744073709551616 : Int) = x + 18446744073709551616 := by omega
    simp only [hb, e]
    rw [if_pos]
    · omega
    · simp only [Bool.and_eq_true, decide_eq_true_eq]
      refine ⟨rfl, ?_⟩
      first | omega | (rw [hc]; omega) | (simp only [hc]; omega)
theorem caF_eq {ca : Int} {now was : Nat} (h1 : 0 ≤ ca) (h2 : ca ≤ 1000) (h3 : now ≤ 1000) (h4 : was ≤ 1000) : caF ca now was = ca + max ((now : Int) - was) 0 := by
  unfold caF
  rw [wrs (x := (now : Int) - was) (by omega) (by omega)]
  by_cases h : (0 : Int) > now - was
  · rw [if_pos h, Int.max_eq_right (by omega), wrs (by omega) (by omega)]
  · rw [if_neg h, Int.max_eq_left (by omega), wrs (by omega) (by omega)]
theorem chk1 {now was : Nat} (h : now ≤ was + 1) (hw : was ≤ 1000) : decide ((now : Int) > IntKind.wrap .i64 ((was : Int) + 1)) = false :=
  decide_eq_false (by rw [wrs (by omega) (by omega)]; omega)
theorem chk2 {now was : Nat} (h : was ≤ now + 1) (hw : was ≤ 1000) : decide ((now : Int) < IntKind.wrap .i64 ((was : Int) - 1)) = false :=
  decide_eq_false (by rw [wrs (by omega) (by omega)]; omega)
theorem chk3 {now was k : Nat} (h : now + k = was) (hw : was ≤ 1000) : ((now : Int) != IntKind.wrap .i64 ((was : Int) - (k : Int))) = false := by
  rw [wrs (by omega) (by omega), bne_eq_false_iff_eq]; omega
theorem chk4 {now was : Nat} (h : now = was) (hw : was ≤ 1000) : ((now : Int) != IntKind.wrap .i64 ((was : Int) - 0)) = false := by
  rw [wrs (by omega) (by omega), bne_eq_false_iff_eq]; omega
noncomputable def st (nd sf : Int) (s : DS) (nl : Bool) (n : Nat) (f : Nat → Nat → AV) (i : Nat) : CS := match s.L with
  | [] => c4n nd sf s.rd s.hs s.hf s.ca s.to nl n f i
  | _ :: _ => c4 nd sf s.L.length (finW s.L) s.rd s.hs s.hf s.ca s.to nl n f i
theorem st_nil {nd sf : Int} {s : DS} {nl : Bool} {n : Nat} {f : Nat → Nat → AV} {i : Nat} (h : s.L = []) : st nd sf s nl n f i = c4n nd sf s.rd s.hs s.hf s.ca s.to nl n f i := by
  unfold st; rw [h]
theorem st_nn {nd sf : Int} {s : DS} {nl : Bool} {n : Nat} {f : Nat → Nat → AV} {i : Nat} (h : s.L ≠ []) : st nd sf s nl n f i = c4 nd sf s.L.length (finW s.L) s.rd s.hs s.hf s.ca s.to nl n f i := by
  unfold st
  split
  · rename_i e; exact absurd e h
  · rfl
noncomputable def pick (n : Nat) (f : Nat → Nat → AV) (i : Nat) (pe p0 p1 p2 p3 p4 p5 : Plan) : Plan := cond (Nat.ble n i) pe (cond (fo f i 0 == 0) p0 (cond (fo f i 0 == 1) p1 (cond (fo f i 0 == 2) p2 (cond (fo f i 0 == 3) p3 (cond (decide (fo f i 0 > 1)) p4 p5)))))
noncomputable def pi4 : CS → Plan
  | ⟨[_, _, _, _, _, .int _ (.ofNat i)], [some (.cells [_, _, .nilSlice, _, _] _), some (.tarr _ n f _), _, _]⟩ => pick n f i s4ne_p s4nk0_p s4nk1_p s4nk2_p s4nk3_p s4nk4_p s4nk5_p
  | ⟨[_, _, _, _, _, .int _ (.ofNat i)], [_, some (.tarr _ n f _), _, _]⟩ => pick n f i s4e_p s4k0_p s4k1_p s4k2_p s4k3_p s4k4_p s4k5_p
  | _ => .stop
theorem pi4_nil (nd sf rd : Int) (hs : AV → Bool) (hf : AV → Nat → AV) (ca to : Int) (nl : Bool) (n : Nat) (f : Nat → Nat → AV) (i : Nat) : pi4 (c4n nd sf rd hs hf ca to nl n f i) = pick n f i s4ne_p s4nk0_p s4nk1_p s4nk2_p s4nk3_p s4nk4_p s4nk5_p := rfl
theorem pi4_nn (nd sf : Int) (wn : Nat) (wf : Nat → Nat → AV) (rd : Int) (hs : AV → Bool) (hf : AV → Nat → AV) (ca to : Int) (nl : Bool) (n : Nat) (f : Nat → Nat → AV) (i : Nat) : pi4 (c4 nd sf wn wf rd hs hf ca to nl n f i) = pick n f i s4e_p s4k0_p s4k1_p s4k2_p s4k3_p s4k4_p s4k5_p := rfl
theorem fin_nn {nd sf : Int} {L' : List Wt} {rd : Int} {hs : AV → Bool} {hf : AV → Nat → AV} {t : Nat} {s : DS} {nl : Bool} {n : Nat} {f : Nat → Nat → AV} {i : Nat} (hL : L' ≠ []) (h1 : 0 ≤ s.ca) (h2 : s.ca ≤ 1000) (h3 : L'.length ≤ 1000) (h4 : s.L.length ≤ 1000) (h5 : 0 ≤ s.to) (h6 : s.to ≤ 1000) (h7 : t ≤ 1000) (hi : i ≤ 1000) :
    Seen (sN nd sf L'.length (finW L') rd hs hf (caF s.ca (L'.length : Int) (s.L.length : Int)) (IntKind.wrap .i64 (s.to + (t : Int))) nl n f (IntKind.wrap .i64 ((i : Int) + 1))) (st nd sf (dNew L' rd hs hf t s) nl n f (i + 1)) := by
  rw [st_nn (show (dNew L' rd hs hf t s).L ≠ [] from hL), caF_eq h1 h2 h3 h4, wrs (x := s.to + t) (by omega) (by omega), wrap_i64s (by omega)]
  exact Seen.refl _
theorem fin_nil {nd sf : Int} {rd : Int} {hs : AV → Bool} {hf : AV → Nat → AV} {t : Nat} {s : DS} {nl : Bool} {n : Nat} {f : Nat → Nat → AV} {i : Nat} (h1 : 0 ≤ s.ca) (h2 : s.ca ≤ 1000) (h4 : s.L.length ≤ 1000) (h5 : 0 ≤ s.to) (h6 : s.to ≤ 1000) (h7 : t ≤ 1000) (hi : i ≤ 1000) :
    Seen (s0 nd sf rd hs hf (caF s.ca ((0 : Nat) : Int) (s.L.length : Int)) (IntKind.wrap .i64 (s.to + (t : Int))) nl n f (IntKind.wrap .i64 ((i : Int) + 1))) (st nd sf (dNew [] rd hs hf t s) nl n f (i + 1)) := by
  rw [st_nil (show (dNew [] rd hs hf t s).L = [] from rfl), caF_eq h1 h2 (by omega) h4, wrs (x := s.to + t) (by omega) (by omega), wrap_i64s (by omega)]
  exact Seen.mk' (SeenVs.refl _) (.cons (SeenO.cells (.cons (SeenV.refl _) (.cons (SeenV.refl _) (.cons SeenV.nil (SeenVs.refl _))))) (SeenOs.same (.skip (SeenOs.refl _))))
structure Inv (i : Nat) (s : DS) : Prop where
  len : s.L.length ≤ 64
  one : ∀ a b, (s.L.filter (qaV a b)).length ≤ 1
  ca : s.ca = s.to + s.L.length
  to0 : 0 ≤ s.to
  cai : s.ca ≤ i
theorem filt_add (q : Wt → Bool) : ∀ L : List Wt, (L.filter (fun x => !(q x))).length + (L.filter q).length = L.length
  | [] => rfl
  | x :: l => by
    have h := filt_add q l
    cases hq : q x <;> simp [hq] <;> omega
theorem filt_le (q p : Wt → Bool) (L : List Wt) : ((L.filter q).filter p).length ≤ (L.filter p).length := by
  rw [List.filter_filter]
  induction L with
  | nil => exact Nat.le_refl _
  | cons x l ih =>
    simp only [List.filter_cons]
    cases hp : p x <;> cases hq : q x <;> simp <;> omega
theorem inv_new {i : Nat} {s : DS} (h : Inv i s) {L' : List Wt} {rd : Int} {hs : AV → Bool} {hf : AV → Nat → AV} {t : Nat} (hl : L'.length ≤ 64) (h1 : ∀ a b, (L'.filter (qaV a b)).length ≤ 1)
    (ht : L'.length + t = s.L.length ∨ (t = 0 ∧ L'.length = s.L.length + 1)) : Inv (i + 1) (dNew L' rd hs hf t s) := by
  have hc := h.ca
  have hci := h.cai
  have h0 := h.to0
  refine ⟨hl, h1, ?_, ?_, ?_⟩
  · show s.ca + max ((L'.length : Int) - s.L.length) 0 = s.to + t + L'.length
    rcases ht with ht | ⟨ht, hk⟩
    · rw [Int.max_eq_right (by omega)]; omega
    · rw [Int.max_eq_left (by omega)]; omega
  · show 0 ≤ s.to + (t : Int)
    omega
  · show s.ca + max ((L'.length : Int) - s.L.length) 0 ≤ ((i + 1 : Nat) : Int)
    rcases ht with ht | ⟨ht, hk⟩
    · rw [Int.max_eq_right (by omega)]; omega
    · rw [Int.max_eq_left (by omega)]; omega
theorem wr_cases (a b x : Int) (L : List Wt) : wrL a b x L = L ∨ (x ≠ 0 ∧ L.length < 64 ∧ wrL a b x L = L ++ [⟨a, b, x, 0, 0, 0⟩]) := by
  unfold wrL
  cases hx : (x == 0) with
  | true => exact .inl rfl
  | false =>
    cases Nat.blt (firstW (qdV a b) L) L.length with
    | true => exact .inl rfl
    | false =>
      cases hq : Nat.ble 64 L.length with
      | true => exact .inl rfl
      | false =>
        refine .inr ⟨by simpa using hx, ?_, rfl⟩
        rw [ble_iff] at hq
        have := of_decide_eq_false hq
        omega
theorem inv_step (nd sf : Int) {f : Nat → Nat → AV} {i : Nat} {s : DS} (h : Inv i s) (hx : 0 ≤ (f i 3).toI) : Inv (i + 1) (dStep nd sf f i s) := by
  have hlen := h.len
  unfold dStep
  cases (fo f i 0 == 0) with
  | true =>
    simp only [cond_true]
    rcases wr_cases (fo f i 1) (fo f i 2) (fo f i 3) s.L with e | ⟨h1, h2, e⟩
    · rw [e]
      exact inv_new (t := 0) h hlen h.one (.inl (by omega))
    · rw [e]
      refine inv_new (t := 0) h (by simp; omega) (fun a b => ?_) (.inr ⟨rfl, by simp⟩)
      rw [List.filter_append, List.length_append]
      have : qaV a b ⟨fo f i 1, fo f i 2, fo f i 3, 0, 0, 0⟩ = false := by
        rw [qaV_eq]
        rw [fo_eq f i 3] at h1 ⊢
        simp only [qaF, decide_eq_true (show (f i 3).toI > 0 by omega)]
        simp
      simp [this]
      have := h.one a b
      omega
  | false =>
    simp only [cond_false]
    cases (fo f i 0 == 1) with
    | true =>
      simp only [cond_true]
      have ha := filt_add (qaV (fo f i 1) (fo f i 2)) s.L
      have h1 := h.one (fo f i 1) (fo f i 2)
      cases hq : Nat.ble 64 (s.L.filter (fun x => !(qaV (fo f i 1) (fo f i 2) x))).length with
      | true =>
        have hq := le_of hq
        simp only [cond_true]
        exact inv_new (t := 0) h (by omega) (fun a b => Nat.le_trans (filt_le _ _ _) (h.one a b)) (.inl (by omega))
      | false =>
        rw [ble_iff] at hq
        have hq := of_decide_eq_false hq
        simp only [cond_false]
        refine inv_new (t := 0) h (by simp; omega) (fun a b => ?_) ?_
        · rw [List.filter_append, List.length_append]
          by_cases hab : qaV a b ⟨fo f i 1, fo f i 2, 0, fo f i 4, fo f i 5, IntKind.wrap .u64 (s.rd + 1)⟩ = true
          · have he : fo f i 1 = a ∧ fo f i 2 = b := by
              rw [qaV_eq] at hab
              simp [qaF] at hab
              exact hab
            have hz : (s.L.filter (fun x => !(qaV (fo f i 1) (fo f i 2) x))).filter (qaV a b) = [] := by
              rw [List.filter_eq_nil_iff]
              intro x hm
              have := (List.mem_filter.1 hm).2
              rw [he.1, he.2] at this
              simpa using this
            rw [hz]
            simp only [List.filter_cons, List.filter_nil, hab, if_true]
            exact Nat.le_refl _
          · simp only [List.filter_cons, List.filter_nil, if_neg hab, List.length_nil, Nat.add_zero]
            exact Nat.le_trans (filt_le _ _ _) (h.one a b)
        · simp only [List.length_append, List.length_cons, List.length_nil]
          have : (s.L.filter (qaV (fo f i 1) (fo f i 2))).length = 0 ∨ (s.L.filter (qaV (fo f i 1) (fo f i 2))).length = 1 := by omega
          rcases this with hz | hz
          · exact .inr ⟨trivial, by omega⟩
          · exact .inl (by omega)
    | false =>
      simp only [cond_false]
      cases (fo f i 0 == 2) with
      | true => exact inv_new (t := 0) h hlen h.one (.inl (by omega))
      | false =>
        simp only [cond_false]
        have key : ∀ (q : Wt → Bool) rd hs hf, Inv (i + 1) (dNew (s.L.filter (fun x => !(q x))) rd hs hf (s.L.filter q).length s) := fun q rd hs hf => by
          have ha := filt_add q s.L
          exact inv_new h (by omega) (fun a b => Nat.le_trans (filt_le _ _ _) (h.one a b)) (.inl ha)
        cases (fo f i 0 == 3) with
        | true => exact key _ _ _ _
        | false => exact key _ _ _ _
theorem inv_at (nd sf : Int) {f : Nat → Nat → AV} : ∀ i, (∀ j, j < i → 0 ≤ (f j 3).toI) → Inv i (dsAt nd sf f i)
  | 0, _ => ⟨Nat.zero_le _, fun a b => Nat.zero_le _, rfl, Int.le_refl _, Int.le_refl _⟩
  | i + 1, h => inv_step nd sf (inv_at nd sf i fun j hj => h j (by omega)) (h i (by omega))
end Go.Proofs.Ytgflmdjlpjjnaaa.desk
end
section
set_option linter.unusedSimpArgs false
set_option linter.unusedVariables false
set_option maxRecDepth 20000
namespace Go.Proofs.Ytgflmdjlpjjnaaa.desk
open Go Go.RowKit Go.Proofs.Ytgflmdjlpjjnaaa.Bm
noncomputable abbrev stp (c : CS) (π : Plan) : Option (Nat × CS) := stepC FA 600 (loopC FA 4 0) 0 h4 ((.normal, h4) :: x4) π c
theorem parts (nd sf : Int) (nl : Bool) (n : Nat) (f : Nat → Nat → AV) (i : Nat) (s : DS) (q : Wt → Bool) (rd : Int) (hs : AV → Bool) (hf : AV → Nat → AV) (h1 : 0 ≤ s.ca) (h2 : s.ca ≤ 1000) (h4 : s.L.length ≤ 1000) (h5 : 0 ≤ s.to) (h6 : s.to ≤ 1000) (hi : i ≤ 1000) :
    ∃ c1, (cond (Nat.beq (List.length (s.L.filter q)) 0)
  (cond (Nat.beq (List.length (s.L.filter (fun x => !(q x)))) 0)
  (cond ((↑0 : Int) != IntKind.wrap .i64 ((↑s.L.length : Int) - 0))
  (some (2, (CS.mk [(AV.bool (false))] [])))
  (some (0, (s0 nd sf rd hs hf (caF s.ca (↑0 : Int) (↑s.L.length : Int)) (IntKind.wrap .i64 (s.to + 0)) nl n f (IntKind.wrap .i64 ((↑i : Int) + 1))))))
  (cond (Nat.ble (List.length (s.L.filter (fun x => !(q x)))) 1000)
  (cond ((↑(List.length (s.L.filter (fun x => !(q x)))) : Int) != IntKind.wrap .i64 ((↑s.L.length : Int) - 0))
  (some (2, (CS.mk [(AV.bool (false))] [])))
  (some (0, (sN nd sf (List.length (s.L.filter (fun x => !(q x)))) (finW (s.L.filter (fun x => !(q x)))) rd hs hf (caF s.ca (↑(List.length (s.L.filter (fun x => !(q x)))) : Int) (↑s.L.length : Int)) (IntKind.wrap .i64 (s.to + 0)) nl n f (IntKind.wrap .i64 ((↑i : Int) + 1))))))
  none))
  (cond (Nat.beq (List.length (s.L.filter (fun x => !(q x)))) 0)
  (cond ((↑0 : Int) != IntKind.wrap .i64 ((↑s.L.length : Int) - (↑(List.length (s.L.filter q)) : Int)))
  (some (2, (CS.mk [(AV.bool (false))] [])))
  (some (0, (s0 nd sf rd hs hf (caF s.ca (↑0 : Int) (↑s.L.length : Int)) (IntKind.wrap .i64 (s.to + (↑(List.length (s.L.filter q)) : Int))) nl n f (IntKind.wrap .i64 ((↑i : Int) + 1))))))
  (cond (Nat.ble (List.length (s.L.filter (fun x => !(q x)))) 1000)
  (cond ((↑(List.length (s.L.filter (fun x => !(q x)))) : Int) != IntKind.wrap .i64 ((↑s.L.length : Int) - (↑(List.length (s.L.filter q)) : Int)))
  (some (2, (CS.mk [(AV.bool (false))] [])))
  (some (0, (sN nd sf (List.length (s.L.filter (fun x => !(q x)))) (finW (s.L.filter (fun x => !(q x)))) rd hs hf (caF s.ca (↑(List.length (s.L.filter (fun x => !(q x)))) : Int) (↑s.L.length : Int)) (IntKind.wrap .i64 (s.to + (↑(List.length (s.L.filter q)) : Int))) nl n f (IntKind.wrap .i64 ((↑i : Int) + 1))))))
  none)) : Option (Nat × CS)) = some (0, c1) ∧ Seen c1 (st nd sf (dNew (s.L.filter (fun x => !(q x))) rd hs hf ((s.L.filter q).length : Nat) s) nl n f (i + 1)) := by
  have ha := filt_add q s.L
  have hr : (s.L.filter (fun x => !(q x))).length ≤ 1000 := by omega
  have ho : (s.L.filter q).length ≤ 1000 := by omega
  rw [ble_t hr]
  cases hO : Nat.beq (List.length (s.L.filter q)) 0 with
  | true =>
    have hO := beq_len hO
    rw [hO] at ha
    simp only [List.length_nil, Nat.add_zero] at ha
    cases hR : Nat.beq (List.length (s.L.filter (fun x => !(q x)))) 0 with
    | true =>
      have hR := beq_len hR
      rw [hR] at ha
      rw [show ((0 : Int) != IntKind.wrap .i64 ((s.L.length : Int) - 0)) = false from chk4 (now := 0) ha (by omega)]
      refine ⟨_, rfl, ?_⟩
      rw [hR, hO]
      exact fin_nil (t := 0) h1 h2 h4 h5 h6 (by omega) hi
    | false =>
      rw [chk4 ha (by omega)]
      refine ⟨_, rfl, ?_⟩
      rw [hO]
      exact fin_nn (t := 0) (fun e => by rw [e] at hR; cases hR) h1 h2 hr h4 h5 h6 (by omega) hi
  | false =>
    cases hR : Nat.beq (List.length (s.L.filter (fun x => !(q x)))) 0 with
    | true =>
      have hR := beq_len hR
      rw [hR] at ha
      rw [show ((0 : Int) != IntKind.wrap .i64 ((s.L.length : Int) - ((s.L.filter q).length : Int))) = false from chk3 (now := 0) ha (by omega)]
      refine ⟨_, rfl, ?_⟩
      rw [hR]
      exact fin_nil h1 h2 h4 h5 h6 ho hi
    | false =>
      rw [chk3 ha (by omega)]
      refine ⟨_, rfl, ?_⟩
      exact fin_nn (fun e => by rw [e] at hR; cases hR) h1 h2 hr h4 h5 h6 ho hi
theorem fin_nil0 {nd sf : Int} {rd : Int} {hs : AV → Bool} {hf : AV → Nat → AV} {s : DS} {nl : Bool} {n : Nat} {f : Nat → Nat → AV} {i : Nat} (hL : s.L = []) (h1 : 0 ≤ s.ca) (h2 : s.ca ≤ 1000) (h5 : 0 ≤ s.to) (h6 : s.to ≤ 1000) (hi : i ≤ 1000) :
    Seen (s0 nd sf rd hs hf (caF s.ca ((0 : Nat) : Int) ((0 : Nat) : Int)) (IntKind.wrap .i64 (s.to + 0)) nl n f (IntKind.wrap .i64 ((i : Int) + 1))) (st nd sf (dNew [] rd hs hf 0 s) nl n f (i + 1)) := by
  have h := fin_nil (nd := nd) (sf := sf) (rd := rd) (hs := hs) (hf := hf) (t := 0) (s := s) (nl := nl) (n := n) (f := f) (i := i) h1 h2 (by rw [hL]; exact Nat.zero_le _) h5 h6 (by omega) hi
  rw [show s.L.length = 0 by rw [hL]; rfl] at h
  exact h
theorem fin_nn0 {nd sf : Int} {x : Wt} {rd : Int} {hs : AV → Bool} {hf : AV → Nat → AV} {s : DS} {nl : Bool} {n : Nat} {f : Nat → Nat → AV} {i : Nat} (hL : s.L = []) (h1 : 0 ≤ s.ca) (h2 : s.ca ≤ 1000) (h5 : 0 ≤ s.to) (h6 : s.to ≤ 1000) (hi : i ≤ 1000) :
    Seen (sN nd sf [x].length (finW [x]) rd hs hf (caF s.ca (([x].length : Nat) : Int) ((0 : Nat) : Int)) (IntKind.wrap .i64 (s.to + 0)) nl n f (IntKind.wrap .i64 ((i : Int) + 1))) (st nd sf (dNew [x] rd hs hf 0 s) nl n f (i + 1)) := by
  have h := fin_nn (nd := nd) (sf := sf) (L' := [x]) (rd := rd) (hs := hs) (hf := hf) (t := 0) (s := s) (nl := nl) (n := n) (f := f) (i := i) (by simp) h1 h2 (by simp) (by rw [hL]; exact Nat.zero_le _) h5 h6 (by omega) hi
  rw [show s.L.length = 0 by rw [hL]; rfl] at h
  exact h
theorem bounds {i n : Nat} {s : DS} (h : Inv i s) (hn : n ≤ 200) (hi : i < n) : 0 ≤ s.ca ∧ s.ca ≤ 1000 ∧ s.L.length ≤ 1000 ∧ 0 ≤ s.to ∧ s.to ≤ 1000 ∧ i ≤ 1000 := by
  have h1 := h.len
  have h2 := h.ca
  have h3 := h.to0
  have h4 := h.cai
  exact ⟨by omega, by omega, by omega, h3, by omega, by omega⟩
theorem step_nil (nd sf : Int) (hd : decide (1 ≤ nd) = true) (hd7 : decide (nd ≤ 7) = true) (nl : Bool) (n : Nat) (f : Nat → Nat → AV) (hn : n ≤ 200) (s : DS) (i : Nat) (hi : i < n) (hI : Inv i s) (hL : s.L = []) :
    ∃ c1, stp (c4n nd sf s.rd s.hs s.hf s.ca s.to nl n f i) (pick n f i s4ne_p s4nk0_p s4nk1_p s4nk2_p s4nk3_p s4nk4_p s4nk5_p) = some (0, c1) ∧ Seen c1 (st nd sf (dStep nd sf f i s) nl n f (i + 1)) := by
  obtain ⟨h1, h2, h4, h5, h6, h7⟩ := bounds hI hn hi
  have a0 : decide ((i : Int) < (n : Int)) = true := lt1 hi
  have a1 : Nat.blt (0 + Int.toNat (i : Int)) n = true := by rw [ix0]; exact blt_t hi
  have e1 : ∀ x : Wt, decide ((([x].length : Nat) : Int) > IntKind.wrap .i64 ((0 : Int) + 1)) = false := fun x => chk1 (now := [x].length) (was := 0) (by simp) (by omega)
  have e2 : ∀ x : Wt, Nat.ble [x].length 1000 = true := fun x => rfl
  unfold pick dStep wrL
  rw [ble_f (show ¬ n ≤ i by omega), hL]
  simp only [cond_false, List.filter_nil, List.nil_append, List.length_nil, blt_zero, ble_f (show ¬ 64 ≤ 0 by omega)]
  cases k0 : (fo f i 0 == 0) with
  | true =>
    have g0 : fo f i 0 = 0 := by simpa using k0
    have e := s4nk0_eq nd sf s.rd s.hs s.hf s.ca s.to nl n f i a0 a1 hd hd7 k0 (decide_eq_false (by omega)) (decide_eq_false (by omega))
    simp only [apd_, rdW_zero, List.nil_append, e1, e2, cond_true, cond_false] at e
    cases hx : (fo f i 3 == 0) <;> rw [hx] at e <;> simp only [cond_true, cond_false] at e ⊢
    · exact ⟨_, e, fin_nn0 hL h1 h2 h5 h6 h7⟩
    · exact ⟨_, e, fin_nil0 hL h1 h2 h5 h6 h7⟩
  | false =>
    simp only [cond_false]
    cases k1 : (fo f i 0 == 1) with
    | true =>
      have g0 : fo f i 0 = 1 := by simpa using k1
      have e := s4nk1_eq nd sf s.rd s.hs s.hf s.ca s.to nl n f i a0 a1 hd hd7 k0 k1 (decide_eq_false (by omega)) (decide_eq_false (by omega))
      simp only [apd_, outV_zero, List.nil_append, List.length_nil, ble_f (show ¬ 64 ≤ 0 by omega), e1, e2, cond_true, cond_false] at e ⊢
      exact ⟨_, e, fin_nn0 hL h1 h2 h5 h6 h7⟩
    | false =>
      simp only [cond_false]
      cases k2 : (fo f i 0 == 2) with
      | true =>
        have g0 : fo f i 0 = 2 := by simpa using k2
        have e := s4nk2_eq nd sf s.rd s.hs s.hf s.ca s.to nl n f i a0 a1 hd hd7 k0 k1 k2 (decide_eq_true (by omega))
        rw [nd0 (of_decide_eq_true hd)] at e
        simp only [cond_true, cond_false] at e ⊢
        exact ⟨_, e, fin_nil0 hL h1 h2 h5 h6 h7⟩
      | false =>
        simp only [cond_false]
        cases k3 : (fo f i 0 == 3) with
        | true =>
          have g0 : fo f i 0 = 3 := by simpa using k3
          have e := s4nk3_eq nd sf s.rd s.hs s.hf s.ca s.to nl n f i a0 a1 hd hd7 k0 k1 k2 k3 (decide_eq_true (by omega))
          simp only [outV_zero, List.length_nil, Nat.beq_refl, cond_true] at e ⊢
          exact ⟨_, e, fin_nil0 hL h1 h2 h5 h6 h7⟩
        | false =>
          simp only [cond_false]
          cases k4 : decide (fo f i 0 > 1) with
          | true =>
            have e := s4nk4_eq nd sf s.rd s.hs s.hf s.ca s.to nl n f i a0 a1 hd hd7 k0 k1 k2 k3 k4
            simp only [outV_zero, List.length_nil, Nat.beq_refl, cond_true] at e ⊢
            exact ⟨_, e, fin_nil0 hL h1 h2 h5 h6 h7⟩
          | false =>
            have g1 := of_decide_eq_false k4
            have g2 : fo f i 0 ≠ 0 := by simpa using k0
            have g3 : fo f i 0 ≠ 1 := by simpa using k1
            have e := s4nk5_eq nd sf s.rd s.hs s.hf s.ca s.to nl n f i a0 a1 hd hd7 k0 k1 k2 k3 k4 (decide_eq_true (by omega))
            simp only [outV_zero, List.length_nil, Nat.beq_refl, cond_true, cond_false] at e ⊢
            exact ⟨_, e, fin_nil0 hL h1 h2 h5 h6 h7⟩
theorem step_nn (nd sf : Int) (hd : decide (1 ≤ nd) = true) (hd7 : decide (nd ≤ 7) = true) (nl : Bool) (n : Nat) (f : Nat → Nat → AV) (hn : n ≤ 200) (s : DS) (i : Nat) (hi : i < n) (hI : Inv i s) (hL : s.L ≠ []) :
    ∃ c1, stp (c4 nd sf s.L.length (finW s.L) s.rd s.hs s.hf s.ca s.to nl n f i) (pick n f i s4e_p s4k0_p s4k1_p s4k2_p s4k3_p s4k4_p s4k5_p) = some (0, c1) ∧ Seen c1 (st nd sf (dStep nd sf f i s) nl n f (i + 1)) := by
  obtain ⟨h1, h2, h4, h5, h6, h7⟩ := bounds hI hn hi
  have hlen := hI.len
  have a0 : decide ((i : Int) < (n : Int)) = true := lt1 hi
  have a1 : Nat.blt (0 + Int.toNat (i : Int)) n = true := by rw [ix0]; exact blt_t hi
  have a4 : Nat.ble s.L.length 1000 = true := ble_t h4
  have e1 := chk1 (now := s.L.length) (was := s.L.length) (by omega) h4
  have e2 := chk2 (now := s.L.length) (was := s.L.length) (by omega) h4
  unfold pick dStep wrL
  rw [ble_f (show ¬ n ≤ i by omega)]
  simp only [cond_false]
  cases k0 : (fo f i 0 == 0) with
  | true =>
    have g0 : fo f i 0 = 0 := by simpa using k0
    have e := s4k0_eq nd sf s.L.length (finW s.L) s.rd s.hs s.hf s.ca s.to nl n f i a0 a1 hd hd7 a4 k0 (decide_eq_false (by omega)) (decide_eq_false (by omega))
    simp only [idx_fin, rdW_fin, apd_, e1, e2, cond_true, cond_false, chk1 (now := (s.L ++ [(⟨fo f i 1, fo f i 2, fo f i 3, 0, 0, 0⟩ : Wt)]).length) (was := s.L.length) (by simp) h4, chk2 (now := (s.L ++ [(⟨fo f i 1, fo f i 2, fo f i 3, 0, 0, 0⟩ : Wt)]).length) (was := s.L.length) (by simp; omega) h4,
      ble_t (show (s.L ++ [(⟨fo f i 1, fo f i 2, fo f i 3, 0, 0, 0⟩ : Wt)]).length ≤ 1000 by simp; omega)] at e
    cases hx : (fo f i 3 == 0) <;> rw [hx] at e <;> simp only [cond_true, cond_false] at e ⊢
    · cases hq : Nat.blt (firstW (qdV (fo f i 1) (fo f i 2)) s.L) s.L.length <;> rw [hq] at e <;> simp only [cond_true, cond_false] at e ⊢
      · cases hm : Nat.ble 64 s.L.length <;> rw [hm] at e <;> simp only [cond_true, cond_false] at e ⊢
        · exact ⟨_, e, fin_nn (t := 0) (by simp) h1 h2 (by simp; omega) h4 h5 h6 (by omega) h7⟩
        · exact ⟨_, e, fin_nn (t := 0) hL h1 h2 h4 h4 h5 h6 (by omega) h7⟩
      · exact ⟨_, e, fin_nn (t := 0) hL h1 h2 h4 h4 h5 h6 (by omega) h7⟩
    · exact ⟨_, e, fin_nn (t := 0) hL h1 h2 h4 h4 h5 h6 (by omega) h7⟩
  | false =>
    simp only [cond_false]
    cases k1 : (fo f i 0 == 1) with
    | true =>
      have g0 : fo f i 0 = 1 := by simpa using k1
      have e := s4k1_eq nd sf s.L.length (finW s.L) s.rd s.hs s.hf s.ca s.to nl n f i a0 a1 hd hd7 a4 k0 k1 (decide_eq_false (by omega)) (decide_eq_false (by omega))
      have ha := filt_add (qaV (fo f i 1) (fo f i 2)) s.L
      have ho := hI.one (fo f i 1) (fo f i 2)
      simp only [out_fin, apd_] at e
      simp only [cond_true]
      generalize hR : s.L.filter (fun x => !(qaV (fo f i 1) (fo f i 2) x)) = R at e ha ⊢
      have hr : R.length ≤ 64 := by omega
      simp only [chk1 (now := R.length) (was := s.L.length) (by omega) h4, chk2 (now := R.length) (was := s.L.length) (by omega) h4, ble_t (show R.length ≤ 1000 by omega), cond_true, cond_false,
        chk1 (now := (R ++ [(⟨fo f i 1, fo f i 2, 0, fo f i 4, fo f i 5, IntKind.wrap .u64 (s.rd + 1)⟩ : Wt)]).length) (was := s.L.length) (by simp; omega) h4, chk2 (now := (R ++ [(⟨fo f i 1, fo f i 2, 0, fo f i 4, fo f i 5, IntKind.wrap .u64 (s.rd + 1)⟩ : Wt)]).length) (was := s.L.length) (by simp; omega) h4,
        ble_t (show (R ++ [(⟨fo f i 1, fo f i 2, 0, fo f i 4, fo f i 5, IntKind.wrap .u64 (s.rd + 1)⟩ : Wt)]).length ≤ 1000 by simp; omega)] at e
      cases hm : Nat.ble 64 R.length <;> rw [hm] at e <;> simp only [cond_true, cond_false] at e ⊢
      · exact ⟨_, e, fin_nn (t := 0) (by simp) h1 h2 (by simp; omega) h4 h5 h6 (by omega) h7⟩
      · have hm := le_of hm
        exact ⟨_, e, fin_nn (t := 0) (fun z => by rw [z] at hm; simp at hm) h1 h2 (by omega) h4 h5 h6 (by omega) h7⟩
    | false =>
      simp only [cond_false]
      cases k2 : (fo f i 0 == 2) with
      | true =>
        have g0 : fo f i 0 = 2 := by simpa using k2
        have e := s4k2_eq nd sf s.L.length (finW s.L) s.rd s.hs s.hf s.ca s.to nl n f i a0 a1 hd hd7 a4 k0 k1 k2 (decide_eq_true (by omega))
        rw [nd0 (of_decide_eq_true hd), chk4 rfl h4] at e
        simp only [cond_true, cond_false] at e ⊢
        exact ⟨_, e, fin_nn (t := 0) hL h1 h2 h4 h4 h5 h6 (by omega) h7⟩
      | false =>
        simp only [cond_false]
        cases k3 : (fo f i 0 == 3) with
        | true =>
          have g0 : fo f i 0 = 3 := by simpa using k3
          have e := s4k3_eq nd sf s.L.length (finW s.L) s.rd s.hs s.hf s.ca s.to nl n f i a0 a1 hd hd7 a4 k0 k1 k2 k3 (decide_eq_true (by omega))
          simp only [out_fin] at e
          obtain ⟨c1, z1, z2⟩ := parts nd sf nl n f i s _ s.rd _ _ h1 h2 h4 h5 h6 h7
          exact ⟨c1, e.trans z1, z2⟩
        | false =>
          simp only [cond_false]
          cases k4 : decide (fo f i 0 > 1) with
          | true =>
            have e := s4k4_eq nd sf s.L.length (finW s.L) s.rd s.hs s.hf s.ca s.to nl n f i a0 a1 hd hd7 a4 k0 k1 k2 k3 k4
            simp only [out_fin] at e
            obtain ⟨c1, z1, z2⟩ := parts nd sf nl n f i s _ s.rd _ _ h1 h2 h4 h5 h6 h7
            exact ⟨c1, e.trans z1, z2⟩
          | false =>
            have g1 := of_decide_eq_false k4
            have g2 : fo f i 0 ≠ 0 := by simpa using k0
            have g3 : fo f i 0 ≠ 1 := by simpa using k1
            have e := s4k5_eq nd sf s.L.length (finW s.L) s.rd s.hs s.hf s.ca s.to nl n f i a0 a1 hd hd7 a4 k0 k1 k2 k3 k4 (decide_eq_true (by omega))
            simp only [out_fin] at e
            obtain ⟨c1, z1, z2⟩ := parts nd sf nl n f i s _ s.rd _ _ h1 h2 h4 h5 h6 h7
            exact ⟨c1, e.trans z1, z2⟩
theorem step4 (nd sf : Int) (hd : decide (1 ≤ nd) = true) (hd7 : decide (nd ≤ 7) = true) (nl : Bool) (n : Nat) (f : Nat → Nat → AV) (hn : n ≤ 200) (s : DS) (i : Nat) (hi : i < n) (hI : Inv i s) :
    ∃ c1, stp (st nd sf s nl n f i) (pi4 (st nd sf s nl n f i)) = some (0, c1) ∧ Seen c1 (st nd sf (dStep nd sf f i s) nl n f (i + 1)) := by
  by_cases hL : s.L = []
  · rw [st_nil hL, pi4_nil]; exact step_nil nd sf hd hd7 nl n f hn s i hi hI hL
  · rw [st_nn hL, pi4_nn]; exact step_nn nd sf hd hd7 nl n f hn s i hi hI hL
theorem il4 (c : CS) (r : Nat × CS) (h : (r4 c).run = some r) : Loops (fun c => stp c (pi4 c)) c r.1 r.2 := by
  obtain ⟨nd, sf, wf, zc, nl, n, f, rfl, hb⟩ := r4_inv h
  obtain ⟨hn, hb2⟩ := chkT_run hb
  have hd := hn 0 _ rfl
  have hd7 := hn 1 _ rfl
  have hle := le_of (hn 2 _ rfl)
  have hok := hn 3 _ rfl
  clear h hb hn
  rw [okV_eq] at hok
  have hok : ∀ j, j < n → 0 ≤ (f j 3).toI := fun j hj => by
    have := okFrom_iff.1 hok j hj
    rw [Nat.zero_add] at this
    exact of_decide_eq_true this
  rw [dsV_eq] at hb2
  have hinv : ∀ i, i ≤ n → Inv i (dsAt nd sf f i) := fun i hi => inv_at nd sf i fun j hj => hok j (by omega)
  refine Loops.see (c1 := st nd sf (dsAt nd sf f 0) nl n f 0) ?_ ?_
  · rw [st_nil (show (dsAt nd sf f 0).L = [] from rfl)]
    exact Seen.mk' (SeenVs.refl _) (.cons (SeenO.cells (.cons (SeenV.refl _) (.cons (SeenV.refl _) (.cons SeenV.nil (SeenVs.refl _))))) (SeenOs.same (.skip (.cons (SeenO.omap0 fun _ => rfl) (SeenOs.refl _)))))
  · have he : ∃ c1, stp (st nd sf (dsAt nd sf f n) nl n f n) (pi4 (st nd sf (dsAt nd sf f n) nl n f n)) = some (0 + 1, c1) ∧ Seen c1 r.2 := by
      by_cases hL : (dsAt nd sf f n).L = []
      · rw [st_nil hL, pi4_nil]
        unfold pick
        rw [ble_t (Nat.le_refl n), cond_true]
        rw [hL] at hb2
        simp only [List.length_nil, Nat.beq_refl, T.run, cond_true, Option.some.injEq] at hb2; subst hb2
        exact ⟨_, s4ne_eq nd sf _ _ _ _ _ nl n f n (lt0 n), Seen.refl _⟩
      · rw [st_nn hL, pi4_nn]
        unfold pick
        rw [ble_t (Nat.le_refl n), cond_true]
        have hq : Nat.beq (dsAt nd sf f n).L.length 0 = false := by
          cases hz : Nat.beq (dsAt nd sf f n).L.length 0 with
          | false => rfl
          | true => exact absurd (beq_len hz) hL
        rw [hq] at hb2
        simp only [T.run, cond_false, Option.some.injEq] at hb2; subst hb2
        exact ⟨_, s4e_eq nd sf _ _ _ _ _ _ _ nl n f n (lt0 n), Seen.refl _⟩
    have hr : r.1 = 1 := by
      cases hq : Nat.beq (dsAt nd sf f n).L.length 0 <;> rw [hq] at hb2 <;> simp only [T.run, cond_false, cond_true, Option.some.injEq] at hb2 <;> rw [← hb2]
    rw [hr]
    exact Loops.for (C := fun i => st nd sf (dsAt nd sf f i) nl n f i) (n := n) (k := 0) (fun i hi => step4 nd sf hd hd7 nl n f hle _ i hi (hinv i (by omega))) he
theorem qFB : Bm.Good Try.prog FB := qFA.addS (by kernel_rfl) rfl (by decide) (by decide) rfl il4
end Go.Proofs.Ytgflmdjlpjjnaaa.desk
end
