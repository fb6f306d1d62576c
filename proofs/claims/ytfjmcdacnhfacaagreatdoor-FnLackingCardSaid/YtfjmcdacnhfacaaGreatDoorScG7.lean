/- Calls of the program, evaluated. No condition. -/
import Derived.Test.YtfjmcdacnhfacaaGreatDoorScG6
set_option linter.all false
open Go Go.Vm Go.Proofs
namespace Go.Proofs.YtfjmcdacnhfacaaGreatDoor.Sc
/- LineOf -/
def a21 : List Go.Vm.E := [Go.Vm.E.p (Go.Vm.P.list 3 [Go.Vm.P.int (Go.IntKind.i64) 1, Go.Vm.P.int (Go.IntKind.i64) 0, Go.Vm.P.str [102], Go.Vm.P.int (Go.IntKind.i64) 4, Go.Vm.P.int (Go.IntKind.i64) 0, Go.Vm.P.str [58]])]
def r21 : Go.Vm.E := Go.Vm.E.p (Go.Vm.P.str [102, 32, 58])
def q21 : PrimD := addPrim q20 18 a21 r21
theorem qOk21 : PrimOk Tryz.prog q21 := PrimOk.add' mixed progOk qOk20 (keep := keep) (F := 100000) (d := 200) (by kernel_rfl) (by kernel_rfl) (by kernel_rfl)
/- LineOf -/
def a22 : List Go.Vm.E := [Go.Vm.E.p (Go.Vm.P.list 3 [Go.Vm.P.int (Go.IntKind.i64) 5, Go.Vm.P.int (Go.IntKind.i64) 0, Go.Vm.P.str [114, 116, 115], Go.Vm.P.int (Go.IntKind.i64) 5, Go.Vm.P.int (Go.IntKind.i64) 0, Go.Vm.P.str [112, 99]])]
def r22 : Go.Vm.E := Go.Vm.E.p (Go.Vm.P.str [114, 116, 115, 32, 112, 99])
def q22 : PrimD := addPrim q21 18 a22 r22
theorem qOk22 : PrimOk Tryz.prog q22 := PrimOk.add' mixed progOk qOk21 (keep := keep) (F := 100000) (d := 200) (by kernel_rfl) (by kernel_rfl) (by kernel_rfl)
/- ExpandText -/
def a23 : List Go.Vm.E := [Go.Vm.E.p (Go.Vm.P.str [46, 103, 108, 111, 98, 108, 32, 102, 10, 102, 32, 58, 10, 114, 116, 115, 32, 112, 99, 10])]
def r23 : Go.Vm.E := Go.Vm.E.tup [Go.Vm.E.p (Go.Vm.P.str [46, 103, 108, 111, 98, 108, 32, 102, 10, 102, 32, 58, 10, 114, 116, 115, 32, 112, 99, 10]), Go.Vm.E.p (Go.Vm.P.bool true)]
def q23 : PrimD := addPrim q22 8 a23 r23
theorem qOk23 : PrimOk Tryz.prog q23 := PrimOk.add' mixed progOk qOk22 (keep := keep) (F := 100000) (d := 200) (by kernel_rfl) (by kernel_rfl) (by kernel_rfl)
end Go.Proofs.YtfjmcdacnhfacaaGreatDoor.Sc
