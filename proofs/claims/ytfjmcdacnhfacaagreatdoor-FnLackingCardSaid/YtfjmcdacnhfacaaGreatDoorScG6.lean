/- Calls of the program, evaluated. No condition. -/
import Derived.Test.YtfjmcdacnhfacaaGreatDoorScG5
set_option linter.all false
open Go Go.Vm Go.Proofs
namespace Go.Proofs.YtfjmcdacnhfacaaGreatDoor.Sc
/- rowsOf -/
def a18 : List Go.Vm.E := [Go.Vm.E.p (Go.Vm.P.str [46, 103, 108, 111, 98, 108, 32, 102, 10, 102, 32, 58, 10, 114, 116, 115, 32, 112, 99, 10])]
def r18 : Go.Vm.E := Go.Vm.E.p (Go.Vm.P.list 1 [Go.Vm.P.str [46, 103, 108, 111, 98, 108, 32, 102], Go.Vm.P.str [102, 32, 58], Go.Vm.P.str [114, 116, 115, 32, 112, 99]])
def q18 : PrimD := addPrim q17 15 a18 r18
theorem qOk18 : PrimOk Tryz.prog q18 := PrimOk.add' mixed progOk qOk17 (keep := keep) (F := 100000) (d := 200) (by kernel_rfl) (by kernel_rfl) (by kernel_rfl)
/- Lex -/
def a19 : List Go.Vm.E := [Go.Vm.E.p (Go.Vm.P.str [102, 32, 58])]
def r19 : Go.Vm.E := Go.Vm.E.tup [Go.Vm.E.p (Go.Vm.P.list 3 [Go.Vm.P.int (Go.IntKind.i64) 1, Go.Vm.P.int (Go.IntKind.i64) 0, Go.Vm.P.str [102], Go.Vm.P.int (Go.IntKind.i64) 4, Go.Vm.P.int (Go.IntKind.i64) 0, Go.Vm.P.str [58]]), Go.Vm.E.p (Go.Vm.P.bool true)]
def q19 : PrimD := addPrim q18 16 a19 r19
theorem qOk19 : PrimOk Tryz.prog q19 := PrimOk.add' mixed progOk qOk18 (keep := keep) (F := 100000) (d := 200) (by kernel_rfl) (by kernel_rfl) (by kernel_rfl)
/- Lex -/
def a20 : List Go.Vm.E := [Go.Vm.E.p (Go.Vm.P.str [114, 116, 115, 32, 112, 99])]
def r20 : Go.Vm.E := Go.Vm.E.tup [Go.Vm.E.p (Go.Vm.P.list 3 [Go.Vm.P.int (Go.IntKind.i64) 5, Go.Vm.P.int (Go.IntKind.i64) 0, Go.Vm.P.str [114, 116, 115], Go.Vm.P.int (Go.IntKind.i64) 5, Go.Vm.P.int (Go.IntKind.i64) 0, Go.Vm.P.str [112, 99]]), Go.Vm.E.p (Go.Vm.P.bool true)]
def q20 : PrimD := addPrim q19 16 a20 r20
theorem qOk20 : PrimOk Tryz.prog q20 := PrimOk.add' mixed progOk qOk19 (keep := keep) (F := 100000) (d := 200) (by kernel_rfl) (by kernel_rfl) (by kernel_rfl)
end Go.Proofs.YtfjmcdacnhfacaaGreatDoor.Sc
