/- Calls of the program, evaluated. No condition. -/
import Derived.Test.YtfjmcdacnhfacaaGreatDoorScF
set_option linter.all false
open Go Go.Vm Go.Proofs
namespace Go.Proofs.YtfjmcdacnhfacaaGreatDoor.Sc
/- rowsOf -/
def a0 : List Go.Vm.E := [Go.Vm.E.p (Go.Vm.P.str [46, 103, 108, 111, 98, 108, 32, 102, 10, 106, 115, 114, 32, 112, 99, 32, 44, 32, 102, 10, 104, 97, 108, 116, 10])]
def r0 : Go.Vm.E := Go.Vm.E.p (Go.Vm.P.list 1 [Go.Vm.P.str [46, 103, 108, 111, 98, 108, 32, 102], Go.Vm.P.str [106, 115, 114, 32, 112, 99, 32, 44, 32, 102], Go.Vm.P.str [104, 97, 108, 116]])
def q0 : PrimD := addPrim prim 15 a0 r0
theorem qOk0 : PrimOk Tryz.prog q0 := PrimOk.add' mixed progOk primOk (keep := keep) (F := 100000) (d := 200) (by kernel_rfl) (by kernel_rfl) (by kernel_rfl)
/- Lex -/
def a1 : List Go.Vm.E := [Go.Vm.E.p (Go.Vm.P.str [46, 103, 108, 111, 98, 108, 32, 102])]
def r1 : Go.Vm.E := Go.Vm.E.tup [Go.Vm.E.p (Go.Vm.P.list 3 [Go.Vm.P.int (Go.IntKind.i64) 3, Go.Vm.P.int (Go.IntKind.i64) 0, Go.Vm.P.str [46, 103, 108, 111, 98, 108], Go.Vm.P.int (Go.IntKind.i64) 1, Go.Vm.P.int (Go.IntKind.i64) 0, Go.Vm.P.str [102]]), Go.Vm.E.p (Go.Vm.P.bool true)]
def q1 : PrimD := addPrim q0 16 a1 r1
theorem qOk1 : PrimOk Tryz.prog q1 := PrimOk.add' mixed progOk qOk0 (keep := keep) (F := 100000) (d := 200) (by kernel_rfl) (by kernel_rfl) (by kernel_rfl)
/- Lex -/
def a2 : List Go.Vm.E := [Go.Vm.E.p (Go.Vm.P.str [106, 115, 114, 32, 112, 99, 32, 44, 32, 102])]
def r2 : Go.Vm.E := Go.Vm.E.tup [Go.Vm.E.p (Go.Vm.P.list 3 [Go.Vm.P.int (Go.IntKind.i64) 5, Go.Vm.P.int (Go.IntKind.i64) 0, Go.Vm.P.str [106, 115, 114], Go.Vm.P.int (Go.IntKind.i64) 5, Go.Vm.P.int (Go.IntKind.i64) 0, Go.Vm.P.str [112, 99], Go.Vm.P.int (Go.IntKind.i64) 4, Go.Vm.P.int (Go.IntKind.i64) 0, Go.Vm.P.str [44], Go.Vm.P.int (Go.IntKind.i64) 1, Go.Vm.P.int (Go.IntKind.i64) 0, Go.Vm.P.str [102]]), Go.Vm.E.p (Go.Vm.P.bool true)]
def q2 : PrimD := addPrim q1 16 a2 r2
theorem qOk2 : PrimOk Tryz.prog q2 := PrimOk.add' mixed progOk qOk1 (keep := keep) (F := 100000) (d := 200) (by kernel_rfl) (by kernel_rfl) (by kernel_rfl)
end Go.Proofs.YtfjmcdacnhfacaaGreatDoor.Sc
