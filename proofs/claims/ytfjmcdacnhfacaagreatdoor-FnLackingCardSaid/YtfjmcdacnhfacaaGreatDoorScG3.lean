/- Calls of the program, evaluated. No condition. -/
import Derived.Test.YtfjmcdacnhfacaaGreatDoorScG2
set_option linter.all false
open Go Go.Vm Go.Proofs
namespace Go.Proofs.YtfjmcdacnhfacaaGreatDoor.Sc
/- ParseLine -/
def a9 : List Go.Vm.E := [Go.Vm.E.p (Go.Vm.P.str [106, 115, 114, 32, 112, 99, 32, 44, 32, 102])]
def r9 : Go.Vm.E := Go.Vm.E.tup [Go.Vm.E.agg [Go.Vm.E.p (Go.Vm.P.int (Go.IntKind.i64) 3), Go.Vm.E.p (Go.Vm.P.str []), Go.Vm.E.p (Go.Vm.P.int (Go.IntKind.i64) 15), Go.Vm.E.p (Go.Vm.P.int (Go.IntKind.i64) 0), Go.Vm.E.p (Go.Vm.P.int (Go.IntKind.i64) 0), Go.Vm.E.p (Go.Vm.P.int (Go.IntKind.i64) 0), Go.Vm.E.p (Go.Vm.P.int (Go.IntKind.i64) 0), Go.Vm.E.p (Go.Vm.P.str []), Go.Vm.E.nil, Go.Vm.E.p (Go.Vm.P.int (Go.IntKind.i64) 10), Go.Vm.E.p (Go.Vm.P.int (Go.IntKind.i64) 0), Go.Vm.E.p (Go.Vm.P.int (Go.IntKind.i64) 2), Go.Vm.E.p (Go.Vm.P.int (Go.IntKind.i64) 0), Go.Vm.E.p (Go.Vm.P.str [102]), Go.Vm.E.nil, Go.Vm.E.p (Go.Vm.P.int (Go.IntKind.i64) 7), Go.Vm.E.nil], Go.Vm.E.p (Go.Vm.P.bool true)]
def q9 : PrimD := addPrim q8 19 a9 r9
theorem qOk9 : PrimOk Tryz.prog q9 := PrimOk.add' mixed progOk qOk8 (keep := keep) (F := 100000) (d := 200) (by kernel_rfl) (by kernel_rfl) (by kernel_rfl)
/- ParseLine -/
def a10 : List Go.Vm.E := [Go.Vm.E.p (Go.Vm.P.str [104, 97, 108, 116])]
def r10 : Go.Vm.E := Go.Vm.E.tup [Go.Vm.E.agg [Go.Vm.E.p (Go.Vm.P.int (Go.IntKind.i64) 3), Go.Vm.E.p (Go.Vm.P.str []), Go.Vm.E.p (Go.Vm.P.int (Go.IntKind.i64) 22), Go.Vm.E.p (Go.Vm.P.int (Go.IntKind.i64) 0), Go.Vm.E.p (Go.Vm.P.int (Go.IntKind.i64) 0), Go.Vm.E.p (Go.Vm.P.int (Go.IntKind.i64) 0), Go.Vm.E.p (Go.Vm.P.int (Go.IntKind.i64) 0), Go.Vm.E.p (Go.Vm.P.str []), Go.Vm.E.nil, Go.Vm.E.p (Go.Vm.P.int (Go.IntKind.i64) 0), Go.Vm.E.p (Go.Vm.P.int (Go.IntKind.i64) 0), Go.Vm.E.p (Go.Vm.P.int (Go.IntKind.i64) 0), Go.Vm.E.p (Go.Vm.P.int (Go.IntKind.i64) 0), Go.Vm.E.p (Go.Vm.P.str []), Go.Vm.E.nil, Go.Vm.E.p (Go.Vm.P.int (Go.IntKind.i64) 0), Go.Vm.E.nil], Go.Vm.E.p (Go.Vm.P.bool true)]
def q10 : PrimD := addPrim q9 19 a10 r10
theorem qOk10 : PrimOk Tryz.prog q10 := PrimOk.add' mixed progOk qOk9 (keep := keep) (F := 100000) (d := 200) (by kernel_rfl) (by kernel_rfl) (by kernel_rfl)
/- ParseText -/
def a11 : List Go.Vm.E := [Go.Vm.E.p (Go.Vm.P.str [46, 103, 108, 111, 98, 108, 32, 102, 10, 106, 115, 114, 32, 112, 99, 32, 44, 32, 102, 10, 104, 97, 108, 116, 10])]
def r11 : Go.Vm.E := Go.Vm.E.tup [Go.Vm.E.p (Go.Vm.P.list 17 [Go.Vm.P.int (Go.IntKind.i64) 7, Go.Vm.P.str [], Go.Vm.P.int (Go.IntKind.i64) 0, Go.Vm.P.int (Go.IntKind.i64) 0, Go.Vm.P.int (Go.IntKind.i64) 0, Go.Vm.P.int (Go.IntKind.i64) 0, Go.Vm.P.int (Go.IntKind.i64) 0, Go.Vm.P.str [], Go.Vm.P.list 0 [], Go.Vm.P.int (Go.IntKind.i64) 0, Go.Vm.P.int (Go.IntKind.i64) 0, Go.Vm.P.int (Go.IntKind.i64) 0, Go.Vm.P.int (Go.IntKind.i64) 0, Go.Vm.P.str [], Go.Vm.P.list 0 [], Go.Vm.P.int (Go.IntKind.i64) 0, Go.Vm.P.list 4 [Go.Vm.P.int (Go.IntKind.i64) 2, Go.Vm.P.int (Go.IntKind.i64) 0, Go.Vm.P.str [102], Go.Vm.P.list 0 []], Go.Vm.P.int (Go.IntKind.i64) 3, Go.Vm.P.str [], Go.Vm.P.int (Go.IntKind.i64) 15, Go.Vm.P.int (Go.IntKind.i64) 0, Go.Vm.P.int (Go.IntKind.i64) 0, Go.Vm.P.int (Go.IntKind.i64) 0, Go.Vm.P.int (Go.IntKind.i64) 0, Go.Vm.P.str [], Go.Vm.P.list 0 [], Go.Vm.P.int (Go.IntKind.i64) 10, Go.Vm.P.int (Go.IntKind.i64) 0, Go.Vm.P.int (Go.IntKind.i64) 2, Go.Vm.P.int (Go.IntKind.i64) 0, Go.Vm.P.str [102], Go.Vm.P.list 0 [], Go.Vm.P.int (Go.IntKind.i64) 7, Go.Vm.P.list 0 [], Go.Vm.P.int (Go.IntKind.i64) 3, Go.Vm.P.str [], Go.Vm.P.int (Go.IntKind.i64) 22, Go.Vm.P.int (Go.IntKind.i64) 0, Go.Vm.P.int (Go.IntKind.i64) 0, Go.Vm.P.int (Go.IntKind.i64) 0, Go.Vm.P.int (Go.IntKind.i64) 0, Go.Vm.P.str [], Go.Vm.P.list 0 [], Go.Vm.P.int (Go.IntKind.i64) 0, Go.Vm.P.int (Go.IntKind.i64) 0, Go.Vm.P.int (Go.IntKind.i64) 0, Go.Vm.P.int (Go.IntKind.i64) 0, Go.Vm.P.str [], Go.Vm.P.list 0 [], Go.Vm.P.int (Go.IntKind.i64) 0, Go.Vm.P.list 0 []]), Go.Vm.E.p (Go.Vm.P.int (Go.IntKind.i64) (-1))]
def q11 : PrimD := addPrim q10 9 a11 r11
theorem qOk11 : PrimOk Tryz.prog q11 := PrimOk.add' mixed progOk qOk10 (keep := keep) (F := 100000) (d := 200) (by kernel_rfl) (by kernel_rfl) (by kernel_rfl)
end Go.Proofs.YtfjmcdacnhfacaaGreatDoor.Sc
