/- The program of the seat: what the interpreter takes as known of its library functions. No condition. -/
import Derived.Test.YtfjmcdacnhfacaaGreatDoorVmV6
import Derived.Test.YtfjmcdacnhfacaaGreatDoorShelf
import Derived.Test.YtfjmcdacnhfacaaGreatDoorChecked
import Derived.KernelRfl
set_option linter.all false
open Go Go.Vm Go.Proofs
namespace Go.Proofs.YtfjmcdacnhfacaaGreatDoor.Sc
def prim : PrimD := fun g => bif Nat.beq g 140 then some primIndex else bif Nat.beq g 137 then some primCount else bif Nat.beq g 46 then some primJoin else none
def keep : FuncId → Bool := fun g => Nat.beq g 21 || Nat.beq g 52
theorem primOk : PrimOk Tryz.prog prim := by
  refine ⟨fun g f xs r hf hr _ _ => ?_⟩
  unfold prim at hf
  rw [beq_eq, beq_eq, beq_eq, Bool.cond_decide, Bool.cond_decide, Bool.cond_decide] at hf
  split at hf
  · rename_i hg; subst hg; injection hf with hf; subst hf
    exact ⟨⟨Tryz.f140, Tryz.func140, by kernel_rfl, by kernel_rfl⟩, primIndex_spec Tryz.stringslite_IndexByte hr⟩
  · split at hf
    · rename_i hg; subst hg; injection hf with hf; subst hf
      exact ⟨⟨Tryz.f137, Tryz.func137, by kernel_rfl, by kernel_rfl⟩, primCount_spec Tryz.strings_Count_one hr⟩
    · split at hf
      · rename_i hg; subst hg; injection hf with hf; subst hf
        exact ⟨⟨Tryz.f46, Tryz.func46, by kernel_rfl, by kernel_rfl⟩, primJoin_spec Tryz.strings_Join_none Tryz.strings_Join hr⟩
      · cases hf
theorem progOk : progIn Tryz.prog = true := by kernel_rfl
theorem mixed : Tryz.prog.follows .mixedOrders = true := by kernel_rfl
end Go.Proofs.YtfjmcdacnhfacaaGreatDoor.Sc
