/- The abstract machine: a program's own environment; a law's call; arguments that are structs of integers. -/
import Derived.Test.YtmjmhpbncfjnpaaBmV
import Derived.WideShapes
set_option linter.unusedSimpArgs false
set_option linter.unusedVariables false
namespace Go.Proofs.Ytmjmhpbncfjnpaa.Bm
open Go.RowKit Go.WideShapes
def envTy (P : Program) : Nat → Tr TI → Tr TI
 | 0, acc => acc
 | n + 1, acc => envTy P n (acc.set n (mkTI P n))
def envFn (P : Program) : Nat → Tr Func → Tr Func
 | 0, acc => acc
 | n + 1, acc => envFn P n (acc.set n (P.funcs[n]?))
def mkEnv (P : Program) (nt nf : Nat) : Env := { lp := fun _ => none, tyd := fun _ => false, bits := bitsR, ty := envTy P nt .nil, fn := envFn P nf .nil, intr := fun _ => none }
theorem envTy_spec (P : Program) : ∀ (n : Nat) (acc : Tr TI) (t : Nat) (ti : TI), (envTy P n acc).get t = some ti → acc.get t = some ti ∨ mkTI P t = some ti
 | 0, acc, t, ti, h => .inl h
 | n + 1, acc, t, ti, h => by
   rcases envTy_spec P n _ t ti h with h | h
   ·rw [Tr.get_set] at h
    by_cases ht : t = n
    ·subst ht; rw [if_pos rfl] at h; exact .inr h
    ·rw [if_neg ht] at h; exact .inl h
   ·exact .inr h
theorem envFn_spec (P : Program) : ∀ (n : Nat) (acc : Tr Func) (t : Nat) (fn : Func), (envFn P n acc).get t = some fn → acc.get t = some fn ∨ P.funcs[t]? = some fn
 | 0, acc, t, ti, h => .inl h
 | n + 1, acc, t, ti, h => by
   rcases envFn_spec P n _ t ti h with h | h
   ·rw [Tr.get_set] at h
    by_cases ht : t = n
    ·subst ht; rw [if_pos rfl] at h; exact .inr h
    ·rw [if_neg ht] at h; exact .inl h
   ·exact .inr h
def namesOk (P : Program) : Bool := P.funcs.toList.all fun fn => !(fn.name == "runtime.NumGoroutine")
theorem erase_none {E : Env} (h : ∀ id, E.lp id = none) : ∀ c, erase E c = c
 | .seq a b => by simp only [erase, erase_none h a, erase_none h b]
 | .cond c a b => by simp only [erase, erase_none h a, erase_none h b]
 | .block id a => by simp only [erase, h id, erase_none h a]
 | .loop a => by simp only [erase, erase_none h a]
 | .skip => rfl
 | .region _ _ _ => rfl
 | .rangeFunc _ _ _ _ => rfl
 | .exit _ => rfl
 | .scope _ => rfl
 | .label _ => rfl
 | .goto _ => rfl
 | .ret => rfl
 | .refuse _ => rfl
theorem mkEnv_ok {P : Program} {nt nf : Nat} (h1 : namesOk P = true) (h2 : P.follows .mixedOrders = true) : EnvOK P (mkEnv P nt nf) where
 ty := fun t ti h => by
  rcases envTy_spec P nt .nil t ti h with h | h
  ·simp [Tr.get] at h
  ·exact h
 fn := fun f fn h => by
  rcases envFn_spec P nf .nil f fn h with h | h
  ·simp [Tr.get] at h
  ·refine ⟨fn, h, ?_, rfl, rfl, by
    cases fn.body with
    | none => rfl
    | some c => rw [Option.map_some, erase_none (fun _ => rfl)]⟩
   have hm : fn ∈ P.funcs.toList := by
    have hlt := (Array.getElem?_eq_some_iff.1 h).1
    have he := (Array.getElem?_eq_some_iff.1 h).2
    rw [← he]; simp
   have := List.all_eq_true.1 h1 fn hm
   simpa using this
 mixed := h2
 bits := rfl
theorem mkEnv_intr {P : Program} {nt nf : Nat} {w0 : World} : IntrOK P w0 (mkEnv P nt nf) := ⟨fun id g fr σ e fr' σ' h => by simp [mkEnv] at h, fun f g args σ v σ' h => by simp [mkEnv] at h⟩
def resB (E : Env) (m f : Nat) (args : List AV) (σ : St) : Bool := match ev E m (.call f args) σ with
 | some (.val (.bool b), _) => b
 | _ => false
theorem law_run {P : Program} {E : Env} {W : World} (hE : EnvOK P E) (hI : IntrOK P W E) {m f : Nat} {args : List AV} {us : List Value} {φ : Phi} {σ : St} (hR : Rel W φ σ.get σ.next W) (hargs : VRL φ args us) (h : resB E m f args σ = true) :
  Calls P f us.toArray W fun e W' => e = .returned (.bool true) ∧ Below W.heap.size W W' := by
 unfold resB at h
 split at h
 ·rename_i b σ' hev
  subst h
  have hj := ev_sound hE hI m _ _ _ _ hev
  have hc := hj.2 0 φ W us hR hargs
  refine callsIn_wide.1 (CallsIn.mono (F := Fence.wide) (n := 0) hc fun e W' he => ?_)
  obtain ⟨u, φ', rfl, h1, h2, h3⟩ := he
  simp only [VR] at h1; subst h1
  exact ⟨rfl, h2.below⟩
 ·cases h
theorem rel_empty (W : World) : Rel W (fun _ => none) (St.mk .nil 0).get (St.mk .nil 0).next W :=
 ⟨(fun _ _ _ _ h => by cases h), (fun _ _ _ _ h => by cases h), (fun _ _ _ _ _ _ _ _ _ h => by cases h), (fun _ _ => rfl), (fun _ _ => rfl), Below.refl _ _⟩
theorem open_ints_struct {P : Program} {W : World} {base : Nat} {t : TypeId} {v : Value} {fs : Array Field} {ts : List TypeId} {ks : List IntKind} (hu : P.underlying t = some (.struct fs)) (hc : P.cellTypes P.depth t = some ts)
  (hk : ts.map P.underlying = ks.map fun k => some (.int k)) (hs : P.cellsOf t = ts.length) (h : Value.okWide P W .any base t v) :
  ∃ ns : List Int, ns.length = ks.length ∧ v = .agg (List.zipWith Value.int ks ns).toArray := by
 simp only [Value.okWide, hu] at h
 obtain ⟨cs, rfl, hsz, ts', hc', _, hat⟩ := h
 rw [hc] at hc'; injection hc' with hc'; subst hc'
 have hl : ts.length = ks.length := by simpa using congrArg List.length hk
 have hcell : ∀ i, i < ks.length → ∃ k n, ks[i]? = some k ∧ cs.toList[i]? = some (.int k n) := by
  intro i hi
  have hil : i < cs.size := by omega
  obtain ⟨u, h1, h2⟩ := hat i cs[i] (Array.getElem?_eq_getElem hil)
  rw [Nat.mod_eq_of_lt (by omega)] at h1
  have h3 : (ts.map P.underlying)[i]? = some (P.underlying u) := by rw [List.getElem?_map, h1]; rfl
  rw [hk, List.getElem?_map] at h3
  rw [List.getElem?_eq_getElem hi] at h3
  simp only [Option.map_some, Option.some.injEq] at h3
  have h4 : Value.okWide P W .any base u cs[i] := by simp only [Value.okWide, ← h3]; exact h2
  obtain ⟨n, hn⟩ := okWide_int h3.symm h4
  exact ⟨ks[i], n, List.getElem?_eq_getElem hi, by simp [hil, hn]⟩
 refine ⟨(List.range ks.length).map fun i => match (cs.toList[i]? : Option Value) with | some (Value.int _ n) => n | _ => 0, by simp, ?_⟩
 congr 1
 apply Array.toList_inj.1
 refine List.ext_getElem? fun i => ?_
 rw [List.getElem?_zipWith]
 by_cases hi : i < ks.length
 ·obtain ⟨k, n, h1, h2⟩ := hcell i hi
  rw [h2, h1, List.getElem?_map, List.getElem?_range hi]
  simp only [Option.map_some, h2]
 ·rw [List.getElem?_eq_none (by rw [Array.length_toList]; omega), List.getElem?_eq_none (by omega)]
end Go.Proofs.Ytmjmhpbncfjnpaa.Bm
