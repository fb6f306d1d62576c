/- Code that runs from one state of the interpreter to another: rules; a function out of such a run. No condition. -/
import Derived.Test.YtfjmcdacnhfacaaGreatDoorVmV6
set_option linter.all false
namespace Go.Vm
open Go

/-- Begun in s the code ends by x, in s'. -/
def Runs (P : Program) (n : Nat) (c : Code) (s : DS) (x : X) (s' : DS) : Prop := Ext s s' ∧ ∀ k0, AWP P n k0 c (fun e t => e = x.exit ∧ t = s'.st) s.st

section
variable {P : Program} {n : Nat} {call : CallD} {c a b : Code} {s s1 s' : DS} {x : X}

theorem Runs.code (hm : P.follows .mixedOrders = true) (hc : CallOk P call) {f : Nat} (hin : codeIn n c = true) (h : codeD P call n f c s = some (x, s')) : Runs P n c s x s' :=
  (codeD_both hm hc f).1 c s s' x hin h

theorem Runs.seq (h1 : Runs P n a s .norm s1) (h2 : Runs P n b s1 x s') : Runs P n (.seq a b) s x s' := by
  refine ⟨h1.1.trans h2.1, fun k0 => AWP.seq ((h1.2 k0).mono ?_)⟩
  rintro e t ⟨rfl, rfl⟩
  exact h2.2 k0

theorem Runs.seqx (h1 : Runs P n a s x s') (hx : x ≠ .norm) : Runs P n (.seq a b) s x s' := by
  refine ⟨h1.1, fun k0 => AWP.seq ((h1.2 k0).mono ?_)⟩
  rintro e t ⟨rfl, rfl⟩
  cases x with
  | norm => exact absurd rfl hx
  | ex id => exact ⟨rfl, rfl⟩
  | ret => exact ⟨rfl, rfl⟩

theorem Runs.cond {o : Operand} {t : Bool} (hv : s.val o = .p (.bool t)) (hin : inSlots n o = true) (h : Runs P n (match t with | true => a | false => b) s x s') : Runs P n (.cond o a b) s x s' := by
  refine ⟨h.1, fun k0 => AWP.cond (t := t) (by rw [val_st]; exact hv) hin (fun ht => ?_) (fun ht => ?_)⟩
  · subst ht; exact h.2 k0
  · subst ht; exact h.2 k0

theorem Runs.block {id : Nat} (h : Runs P n c s x s') : Runs P n (.block id c) s (match x with | .ex id' => if id' = id then .norm else .ex id' | x => x) s' := by
  refine ⟨h.1, fun k0 => AWP.block ((h.2 k0).mono ?_)⟩
  rintro e t ⟨rfl, rfl⟩
  cases x with
  | norm => exact ⟨rfl, rfl⟩
  | ret => exact ⟨rfl, rfl⟩
  | ex id' =>
    simp only [X.exit, inBlockS]
    split <;> simp

theorem Runs.skip : Runs P n .skip s .norm s := ⟨.refl, fun _ => AWP.skip ⟨rfl, rfl⟩⟩
theorem Runs.ret : Runs P n .ret s .ret s := ⟨.refl, fun _ => AWP.ret ⟨rfl, rfl⟩⟩
theorem Runs.exit {id : Nat} : Runs P n (.exit id) s (.ex id) s := ⟨.refl, fun _ => AWP.exit ⟨rfl, rfl⟩⟩

/-- A step that changes what is said alone. -/
theorem Runs.ghost (he : Ext s s1) (hg : ∀ k0, Goes k0 s.st s1.st) (h : Runs P n c s1 x s') : Runs P n c s x s' := ⟨he.trans h.1, fun k0 => AWP.ghost (hg k0) (h.2 k0)⟩

theorem Runs.freeze (t : Tmp) (h : Runs P n c (freezeSlot s t) x s') : Runs P n c s x s' :=
  Runs.ghost (freezeSlot_ok (k0 := fun _ => 0) (s := s) (t := t)).1 (fun k0 => (freezeSlot_ok (k0 := k0) (s := s) (t := t)).2) h

end

/-- A function out of a run of its body. -/
theorem Spec.of_runs {P : Program} {g : FuncId} {fn : Func} {body : Code} {args : List E} {x : X} {s : DS} {e r : E} (hf : P.funcs[g]? = some fn) (hb : fn.body = some body) (hargs : args.length ≤ fn.ntmps) (hnt : fn.ntmps < 1000000) (hn : noRefs args = true)
    (h : Runs P fn.ntmps body ⟨setAll 0 args .leaf, [], 0⟩ x s) (hx : x = .norm ∨ x = .ret) (he : resultE P fn s.st fn.ntmps = some e) (ho : outE s.heap 0 1000000 e = some r) (hr : r.noRef = true) : Spec P g noHeap args fun h1 r' => h1 = noHeap ∧ r' = r := by
  have hst : (DS.st ⟨setAll 0 args .leaf, [], 0⟩) = ⟨fun t => args.getD t .dead, noHeap, lookC []⟩ := by
    simp only [DS.st, hOf_nil, cOf_zero]
    congr 1
    funext t
    rw [setAll_get args 0 .leaf t (by omega)]
    by_cases ht : t < args.length
    · simp [ht]
    · simp [ht, Tr.get]
  refine Spec.of_zero hn (fun h1 r' hq => ⟨hq.1, by rw [hq.2]; exact hr⟩) ?_
  refine SpecAt.of_body hf hb rfl hargs fun _ => ?_
  rw [← hst]
  refine (h.2 (lookC [])).mono ?_
  rintro ex s2 ⟨rfl, rfl⟩
  have hends : Ends P fn fn.ntmps noHeap (lookC []) (fun h1 _ r' => h1 = noHeap ∧ r' = r) s.st := by
    refine ⟨e, noHeap, r, he, fun id b hb => by simp [noHeap] at hb, fun id b hb => by simp [noHeap] at hb, ?_, rfl, rfl⟩
    exact outE_conv (fun id _ _ => .inl rfl) _ _ _ ho
  rcases hx with rfl | rfl
  · exact hends
  · exact hends

end Go.Vm
