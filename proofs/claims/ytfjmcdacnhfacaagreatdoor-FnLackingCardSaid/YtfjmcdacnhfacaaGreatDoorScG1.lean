/- Calls of the program, evaluated. No condition. -/
import Derived.Test.YtfjmcdacnhfacaaGreatDoorScG0
set_option linter.all false
open Go Go.Vm Go.Proofs
namespace Go.Proofs.YtfjmcdacnhfacaaGreatDoor.Sc
/- Lex -/
def a3 : List Go.Vm.E := [Go.Vm.E.p (Go.Vm.P.str [104, 97, 108, 116])]
def r3 : Go.Vm.E := Go.Vm.E.tup [Go.Vm.E.p (Go.Vm.P.list 3 [Go.Vm.P.int (Go.IntKind.i64) 5, Go.Vm.P.int (Go.IntKind.i64) 0, Go.Vm.P.str [104, 97, 108, 116]]), Go.Vm.E.p (Go.Vm.P.bool true)]
def q3 : PrimD := addPrim q2 16 a3 r3
theorem qOk3 : PrimOk Tryz.prog q3 := PrimOk.add' mixed progOk qOk2 (keep := keep) (F := 100000) (d := 200) (by kernel_rfl) (by kernel_rfl) (by kernel_rfl)
/- LineOf -/
def a4 : List Go.Vm.E := [Go.Vm.E.p (Go.Vm.P.list 3 [Go.Vm.P.int (Go.IntKind.i64) 3, Go.Vm.P.int (Go.IntKind.i64) 0, Go.Vm.P.str [46, 103, 108, 111, 98, 108], Go.Vm.P.int (Go.IntKind.i64) 1, Go.Vm.P.int (Go.IntKind.i64) 0, Go.Vm.P.str [102]])]
def r4 : Go.Vm.E := Go.Vm.E.p (Go.Vm.P.str [46, 103, 108, 111, 98, 108, 32, 102])
def q4 : PrimD := addPrim q3 18 a4 r4
theorem qOk4 : PrimOk Tryz.prog q4 := PrimOk.add' mixed progOk qOk3 (keep := keep) (F := 100000) (d := 200) (by kernel_rfl) (by kernel_rfl) (by kernel_rfl)
/- LineOf -/
def a5 : List Go.Vm.E := [Go.Vm.E.p (Go.Vm.P.list 3 [Go.Vm.P.int (Go.IntKind.i64) 5, Go.Vm.P.int (Go.IntKind.i64) 0, Go.Vm.P.str [106, 115, 114], Go.Vm.P.int (Go.IntKind.i64) 5, Go.Vm.P.int (Go.IntKind.i64) 0, Go.Vm.P.str [112, 99], Go.Vm.P.int (Go.IntKind.i64) 4, Go.Vm.P.int (Go.IntKind.i64) 0, Go.Vm.P.str [44], Go.Vm.P.int (Go.IntKind.i64) 1, Go.Vm.P.int (Go.IntKind.i64) 0, Go.Vm.P.str [102]])]
def r5 : Go.Vm.E := Go.Vm.E.p (Go.Vm.P.str [106, 115, 114, 32, 112, 99, 32, 44, 32, 102])
def q5 : PrimD := addPrim q4 18 a5 r5
theorem qOk5 : PrimOk Tryz.prog q5 := PrimOk.add' mixed progOk qOk4 (keep := keep) (F := 100000) (d := 200) (by kernel_rfl) (by kernel_rfl) (by kernel_rfl)
end Go.Proofs.YtfjmcdacnhfacaaGreatDoor.Sc
