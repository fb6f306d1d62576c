/- Calls of the program, evaluated. No condition. -/
import Derived.Test.YtfjmcdacnhfacaaGreatDoorScG7
set_option linter.all false
open Go Go.Vm Go.Proofs
namespace Go.Proofs.YtfjmcdacnhfacaaGreatDoor.Sc
/- ParseLine -/
def a24 : List Go.Vm.E := [Go.Vm.E.p (Go.Vm.P.str [102, 32, 58])]
def r24 : Go.Vm.E := Go.Vm.E.tup [Go.Vm.E.agg [Go.Vm.E.p (Go.Vm.P.int (Go.IntKind.i64) 1), Go.Vm.E.p (Go.Vm.P.str [102]), Go.Vm.E.p (Go.Vm.P.int (Go.IntKind.i64) 0), Go.Vm.E.p (Go.Vm.P.int (Go.IntKind.i64) 0), Go.Vm.E.p (Go.Vm.P.int (Go.IntKind.i64) 0), Go.Vm.E.p (Go.Vm.P.int (Go.IntKind.i64) 0), Go.Vm.E.p (Go.Vm.P.int (Go.IntKind.i64) 0), Go.Vm.E.p (Go.Vm.P.str []), Go.Vm.E.nil, Go.Vm.E.p (Go.Vm.P.int (Go.IntKind.i64) 0), Go.Vm.E.p (Go.Vm.P.int (Go.IntKind.i64) 0), Go.Vm.E.p (Go.Vm.P.int (Go.IntKind.i64) 0), Go.Vm.E.p (Go.Vm.P.int (Go.IntKind.i64) 0), Go.Vm.E.p (Go.Vm.P.str []), Go.Vm.E.nil, Go.Vm.E.p (Go.Vm.P.int (Go.IntKind.i64) 0), Go.Vm.E.nil], Go.Vm.E.p (Go.Vm.P.bool true)]
def q24 : PrimD := addPrim q23 19 a24 r24
theorem qOk24 : PrimOk Tryz.prog q24 := PrimOk.add' mixed progOk qOk23 (keep := keep) (F := 100000) (d := 200) (by kernel_rfl) (by kernel_rfl) (by kernel_rfl)
/- ParseLine -/
def a25 : List Go.Vm.E := [Go.Vm.E.p (Go.Vm.P.str [114, 116, 115, 32, 112, 99])]
def r25 : Go.Vm.E := Go.Vm.E.tup [Go.Vm.E.agg [Go.Vm.E.p (Go.Vm.P.int (Go.IntKind.i64) 3), Go.Vm.E.p (Go.Vm.P.str []), Go.Vm.E.p (Go.Vm.P.int (Go.IntKind.i64) 16), Go.Vm.E.p (Go.Vm.P.int (Go.IntKind.i64) 0), Go.Vm.E.p (Go.Vm.P.int (Go.IntKind.i64) 0), Go.Vm.E.p (Go.Vm.P.int (Go.IntKind.i64) 0), Go.Vm.E.p (Go.Vm.P.int (Go.IntKind.i64) 0), Go.Vm.E.p (Go.Vm.P.str []), Go.Vm.E.nil, Go.Vm.E.p (Go.Vm.P.int (Go.IntKind.i64) 0), Go.Vm.E.p (Go.Vm.P.int (Go.IntKind.i64) 0), Go.Vm.E.p (Go.Vm.P.int (Go.IntKind.i64) 0), Go.Vm.E.p (Go.Vm.P.int (Go.IntKind.i64) 0), Go.Vm.E.p (Go.Vm.P.str []), Go.Vm.E.nil, Go.Vm.E.p (Go.Vm.P.int (Go.IntKind.i64) 7), Go.Vm.E.nil], Go.Vm.E.p (Go.Vm.P.bool true)]
def q25 : PrimD := addPrim q24 19 a25 r25
theorem qOk25 : PrimOk Tryz.prog q25 := PrimOk.add' mixed progOk qOk24 (keep := keep) (F := 100000) (d := 200) (by kernel_rfl) (by kernel_rfl) (by kernel_rfl)
/- ParseText -/
def a26 : List Go.Vm.E := [Go.Vm.E.p (Go.Vm.P.str [46, 103, 108, 111, 98, 108, 32, 102, 10, 102, 32, 58, 10, 114, 116, 115, 32, 112, 99, 10])]
def r26 : Go.Vm.E := Go.Vm.E.tup [Go.Vm.E.p (Go.Vm.P.list 17 [Go.Vm.P.int (Go.IntKind.i64) 7, Go.Vm.P.str [], Go.Vm.P.int (Go.IntKind.i64) 0, Go.Vm.P.int (Go.IntKind.i64) 0, Go.Vm.P.int (Go.IntKind.i64) 0, Go.Vm.P.int (Go.IntKind.i64) 0, Go.Vm.P.int (Go.IntKind.i64) 0, Go.Vm.P.str [], Go.Vm.P.list 0 [], Go.Vm.P.int (Go.IntKind.i64) 0, Go.Vm.P.int (Go.IntKind.i64) 0, Go.Vm.P.int (Go.IntKind.i64) 0, Go.Vm.P.int (Go.IntKind.i64) 0, Go.Vm.P.str [], Go.Vm.P.list 0 [], Go.Vm.P.int (Go.IntKind.i64) 0, Go.Vm.P.list 4 [Go.Vm.P.int (Go.IntKind.i64) 2, Go.Vm.P.int (Go.IntKind.i64) 0, Go.Vm.P.str [102], Go.Vm.P.list 0 []], Go.Vm.P.int (Go.IntKind.i64) 1, Go.Vm.P.str [102], Go.Vm.P.int (Go.IntKind.i64) 0, Go.Vm.P.int (Go.IntKind.i64) 0, Go.Vm.P.int (Go.IntKind.i64) 0, Go.Vm.P.int (Go.IntKind.i64) 0, Go.Vm.P.int (Go.IntKind.i64) 0, Go.Vm.P.str [], Go.Vm.P.list 0 [], Go.Vm.P.int (Go.IntKind.i64) 0, Go.Vm.P.int (Go.IntKind.i64) 0, Go.Vm.P.int (Go.IntKind.i64) 0, Go.Vm.P.int (Go.IntKind.i64) 0, Go.Vm.P.str [], Go.Vm.P.list 0 [], Go.Vm.P.int (Go.IntKind.i64) 0, Go.Vm.P.list 0 [], Go.Vm.P.int (Go.IntKind.i64) 3, Go.Vm.P.str [], Go.Vm.P.int (Go.IntKind.i64) 16, Go.Vm.P.int (Go.IntKind.i64) 0, Go.Vm.P.int (Go.IntKind.i64) 0, Go.Vm.P.int (Go.IntKind.i64) 0, Go.Vm.P.int (Go.IntKind.i64) 0, Go.Vm.P.str [], Go.Vm.P.list 0 [], Go.Vm.P.int (Go.IntKind.i64) 0, Go.Vm.P.int (Go.IntKind.i64) 0, Go.Vm.P.int (Go.IntKind.i64) 0, Go.Vm.P.int (Go.IntKind.i64) 0, Go.Vm.P.str [], Go.Vm.P.list 0 [], Go.Vm.P.int (Go.IntKind.i64) 7, Go.Vm.P.list 0 []]), Go.Vm.E.p (Go.Vm.P.int (Go.IntKind.i64) (-1))]
def q26 : PrimD := addPrim q25 9 a26 r26
theorem qOk26 : PrimOk Tryz.prog q26 := PrimOk.add' mixed progOk qOk25 (keep := keep) (F := 100000) (d := 200) (by kernel_rfl) (by kernel_rfl) (by kernel_rfl)
end Go.Proofs.YtfjmcdacnhfacaaGreatDoor.Sc
