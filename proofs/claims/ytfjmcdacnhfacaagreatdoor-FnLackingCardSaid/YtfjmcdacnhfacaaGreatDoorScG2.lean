/- Calls of the program, evaluated. No condition. -/
import Derived.Test.YtfjmcdacnhfacaaGreatDoorScG1
set_option linter.all false
open Go Go.Vm Go.Proofs
namespace Go.Proofs.YtfjmcdacnhfacaaGreatDoor.Sc
/- LineOf -/
def a6 : List Go.Vm.E := [Go.Vm.E.p (Go.Vm.P.list 3 [Go.Vm.P.int (Go.IntKind.i64) 5, Go.Vm.P.int (Go.IntKind.i64) 0, Go.Vm.P.str [104, 97, 108, 116]])]
def r6 : Go.Vm.E := Go.Vm.E.p (Go.Vm.P.str [104, 97, 108, 116])
def q6 : PrimD := addPrim q5 18 a6 r6
theorem qOk6 : PrimOk Tryz.prog q6 := PrimOk.add' mixed progOk qOk5 (keep := keep) (F := 100000) (d := 200) (by kernel_rfl) (by kernel_rfl) (by kernel_rfl)
/- ExpandText -/
def a7 : List Go.Vm.E := [Go.Vm.E.p (Go.Vm.P.str [46, 103, 108, 111, 98, 108, 32, 102, 10, 106, 115, 114, 32, 112, 99, 32, 44, 32, 102, 10, 104, 97, 108, 116, 10])]
def r7 : Go.Vm.E := Go.Vm.E.tup [Go.Vm.E.p (Go.Vm.P.str [46, 103, 108, 111, 98, 108, 32, 102, 10, 106, 115, 114, 32, 112, 99, 32, 44, 32, 102, 10, 104, 97, 108, 116, 10]), Go.Vm.E.p (Go.Vm.P.bool true)]
def q7 : PrimD := addPrim q6 8 a7 r7
theorem qOk7 : PrimOk Tryz.prog q7 := PrimOk.add' mixed progOk qOk6 (keep := keep) (F := 100000) (d := 200) (by kernel_rfl) (by kernel_rfl) (by kernel_rfl)
/- ParseLine -/
def a8 : List Go.Vm.E := [Go.Vm.E.p (Go.Vm.P.str [46, 103, 108, 111, 98, 108, 32, 102])]
def r8 : Go.Vm.E := Go.Vm.E.tup [Go.Vm.E.agg [Go.Vm.E.p (Go.Vm.P.int (Go.IntKind.i64) 7), Go.Vm.E.p (Go.Vm.P.str []), Go.Vm.E.p (Go.Vm.P.int (Go.IntKind.i64) 0), Go.Vm.E.p (Go.Vm.P.int (Go.IntKind.i64) 0), Go.Vm.E.p (Go.Vm.P.int (Go.IntKind.i64) 0), Go.Vm.E.p (Go.Vm.P.int (Go.IntKind.i64) 0), Go.Vm.E.p (Go.Vm.P.int (Go.IntKind.i64) 0), Go.Vm.E.p (Go.Vm.P.str []), Go.Vm.E.nil, Go.Vm.E.p (Go.Vm.P.int (Go.IntKind.i64) 0), Go.Vm.E.p (Go.Vm.P.int (Go.IntKind.i64) 0), Go.Vm.E.p (Go.Vm.P.int (Go.IntKind.i64) 0), Go.Vm.E.p (Go.Vm.P.int (Go.IntKind.i64) 0), Go.Vm.E.p (Go.Vm.P.str []), Go.Vm.E.nil, Go.Vm.E.p (Go.Vm.P.int (Go.IntKind.i64) 0), Go.Vm.E.p (Go.Vm.P.list 4 [Go.Vm.P.int (Go.IntKind.i64) 2, Go.Vm.P.int (Go.IntKind.i64) 0, Go.Vm.P.str [102], Go.Vm.P.list 0 []])], Go.Vm.E.p (Go.Vm.P.bool true)]
def q8 : PrimD := addPrim q7 19 a8 r8
theorem qOk8 : PrimOk Tryz.prog q8 := PrimOk.add' mixed progOk qOk7 (keep := keep) (F := 100000) (d := 200) (by kernel_rfl) (by kernel_rfl) (by kernel_rfl)
end Go.Proofs.YtfjmcdacnhfacaaGreatDoor.Sc
