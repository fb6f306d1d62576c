/- What was evaluated once is taken as known. No condition. -/
import Derived.Test.YtfjmcdacnhfacaaGreatDoorVmV5
set_option linter.all false
namespace Go.Vm
open Go

def addPrim (prim : PrimD) (g : FuncId) (args : List E) (r : E) : PrimD := fun g' =>
  bif Nat.beq g' g then some fun xs => bif sameE xs args then some r else match prim g with
    | some f => f xs
    | none => none
  else prim g'

theorem PrimOk.add {P : Program} (hm : P.follows .mixedOrders = true) (hp : progIn P = true) {prim : PrimD} (hpr : PrimOk P prim) {keep : FuncId → Bool} {F d : Nat} {g : FuncId} {args : List E} {r : E} {c' : Nat} (hx : noRefs args = true) (hr : r.noRef = true)
    (h : callD P prim keep F d g args [] 0 = some (r, [], c')) : PrimOk P (addPrim prim g args r) := by
  have hcall := ((callD_ok hm hp hpr keep F d).ok _ _ _ _ _ _ _ h).1
  have hspec := callD_spec hm hp hpr hx hr h
  refine ⟨fun g' f xs r' hf hfr hxs hr' => ?_⟩
  unfold addPrim at hf
  rw [beq_eq, Bool.cond_decide] at hf
  split at hf
  · rename_i hg
    subst hg
    injection hf with hf; subst hf
    simp only at hfr
    cases hs : sameE xs args with
    | true =>
      rw [hs] at hfr
      simp only [cond_true, Option.some.injEq] at hfr
      subst hfr
      have := sameE_eq hs
      subst this
      exact ⟨hcall, fun cnt => (hspec cnt).mono fun _ _ _ q => q.2⟩
    | false =>
      rw [hs] at hfr
      simp only [cond_false] at hfr
      split at hfr
      · rename_i f hf
        exact hpr.ok g' f xs r' hf hfr hxs hr'
      · cases hfr
  · exact hpr.ok g' f xs r' hf hfr hxs hr'

/-- The same, whatever the count of blocks. -/
theorem PrimOk.add' {P : Program} (hm : P.follows .mixedOrders = true) (hp : progIn P = true) {prim : PrimD} (hpr : PrimOk P prim) {keep : FuncId → Bool} {F d : Nat} {g : FuncId} {args : List E} {r : E} (hx : noRefs args = true) (hr : r.noRef = true)
    (h : (callD P prim keep F d g args [] 0).map (fun x => (x.1, x.2.1)) = some (r, [])) : PrimOk P (addPrim prim g args r) := by
  simp only [Option.map_eq_some_iff, Prod.mk.injEq] at h
  obtain ⟨⟨r1, h1, c1⟩, hc, rfl, rfl⟩ := h
  exact hpr.add hm hp hx hr hc

end Go.Vm
