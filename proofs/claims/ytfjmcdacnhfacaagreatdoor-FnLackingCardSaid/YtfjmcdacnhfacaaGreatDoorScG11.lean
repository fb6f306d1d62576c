/- Calls of the program, evaluated. No condition. -/
import Derived.Test.YtfjmcdacnhfacaaGreatDoorScG10
set_option linter.all false
open Go Go.Vm Go.Proofs
namespace Go.Proofs.YtfjmcdacnhfacaaGreatDoor.Sc
/- PlaceAll -/
def a33 : List Go.Vm.E := [Go.Vm.E.p (Go.Vm.P.list 2 [Go.Vm.P.list 3 [Go.Vm.P.str [99, 111, 100, 101], Go.Vm.P.bool false, Go.Vm.P.list 4 [Go.Vm.P.int (Go.IntKind.i64) 1, Go.Vm.P.int (Go.IntKind.i64) 2551, Go.Vm.P.str [], Go.Vm.P.list 0 [], Go.Vm.P.int (Go.IntKind.i64) 6, Go.Vm.P.int (Go.IntKind.i64) 0, Go.Vm.P.str [], Go.Vm.P.list 4 [Go.Vm.P.int (Go.IntKind.i64) 12, Go.Vm.P.int (Go.IntKind.i64) 0, Go.Vm.P.str [102], Go.Vm.P.list 0 [], Go.Vm.P.int (Go.IntKind.i64) 5, Go.Vm.P.int (Go.IntKind.i64) 0, Go.Vm.P.str [], Go.Vm.P.list 4 [Go.Vm.P.int (Go.IntKind.i64) 11, Go.Vm.P.int (Go.IntKind.i64) 0, Go.Vm.P.str [], Go.Vm.P.list 0 [], Go.Vm.P.int (Go.IntKind.i64) 1, Go.Vm.P.int (Go.IntKind.i64) 4, Go.Vm.P.str [], Go.Vm.P.list 0 []]], Go.Vm.P.int (Go.IntKind.i64) 1, Go.Vm.P.int (Go.IntKind.i64) 0, Go.Vm.P.str [], Go.Vm.P.list 0 []]], Go.Vm.P.list 0 []]), Go.Vm.E.p (Go.Vm.P.int (Go.IntKind.i64) 64)]
def r33 : Go.Vm.E := Go.Vm.E.tup [Go.Vm.E.p (Go.Vm.P.list 3 [Go.Vm.P.int (Go.IntKind.i64) 0, Go.Vm.P.int (Go.IntKind.i64) 0, Go.Vm.P.int (Go.IntKind.i64) 64]), Go.Vm.E.p (Go.Vm.P.int (Go.IntKind.i64) 70), Go.Vm.E.p (Go.Vm.P.int (Go.IntKind.i64) 0)]
def q33 : PrimD := addPrim q32 28 a33 r33
theorem qOk33 : PrimOk Tryz.prog q33 := PrimOk.add' mixed progOk qOk32 (keep := keep) (F := 100000) (d := 200) (by kernel_rfl) (by kernel_rfl) (by kernel_rfl)
/- globsOf -/
def a34 : List Go.Vm.E := [Go.Vm.E.p (Go.Vm.P.list 2 [Go.Vm.P.list 3 [Go.Vm.P.str [99, 111, 100, 101], Go.Vm.P.bool false, Go.Vm.P.list 4 [Go.Vm.P.int (Go.IntKind.i64) 1, Go.Vm.P.int (Go.IntKind.i64) 2551, Go.Vm.P.str [], Go.Vm.P.list 0 [], Go.Vm.P.int (Go.IntKind.i64) 6, Go.Vm.P.int (Go.IntKind.i64) 0, Go.Vm.P.str [], Go.Vm.P.list 4 [Go.Vm.P.int (Go.IntKind.i64) 12, Go.Vm.P.int (Go.IntKind.i64) 0, Go.Vm.P.str [102], Go.Vm.P.list 0 [], Go.Vm.P.int (Go.IntKind.i64) 5, Go.Vm.P.int (Go.IntKind.i64) 0, Go.Vm.P.str [], Go.Vm.P.list 4 [Go.Vm.P.int (Go.IntKind.i64) 11, Go.Vm.P.int (Go.IntKind.i64) 0, Go.Vm.P.str [], Go.Vm.P.list 0 [], Go.Vm.P.int (Go.IntKind.i64) 1, Go.Vm.P.int (Go.IntKind.i64) 4, Go.Vm.P.str [], Go.Vm.P.list 0 []]], Go.Vm.P.int (Go.IntKind.i64) 1, Go.Vm.P.int (Go.IntKind.i64) 0, Go.Vm.P.str [], Go.Vm.P.list 0 []]], Go.Vm.P.list 0 []]), Go.Vm.E.p (Go.Vm.P.int (Go.IntKind.i64) 64)]
def r34 : Go.Vm.E := Go.Vm.E.tup [Go.Vm.E.p (Go.Vm.P.list 1 []), Go.Vm.E.p (Go.Vm.P.list 1 []), Go.Vm.E.p (Go.Vm.P.list 3 [Go.Vm.P.int (Go.IntKind.i64) 0, Go.Vm.P.int (Go.IntKind.i64) 0, Go.Vm.P.int (Go.IntKind.i64) 64]), Go.Vm.E.p (Go.Vm.P.int (Go.IntKind.i64) 70), Go.Vm.E.p (Go.Vm.P.int (Go.IntKind.i64) 0)]
def q34 : PrimD := addPrim q33 11 a34 r34
theorem qOk34 : PrimOk Tryz.prog q34 := PrimOk.add' mixed progOk qOk33 (keep := keep) (F := 100000) (d := 200) (by kernel_rfl) (by kernel_rfl) (by kernel_rfl)
/- Lacks -/
def a35 : List Go.Vm.E := [Go.Vm.E.p (Go.Vm.P.list 2 [Go.Vm.P.list 3 [Go.Vm.P.str [99, 111, 100, 101], Go.Vm.P.bool false, Go.Vm.P.list 4 [Go.Vm.P.int (Go.IntKind.i64) 1, Go.Vm.P.int (Go.IntKind.i64) 2551, Go.Vm.P.str [], Go.Vm.P.list 0 [], Go.Vm.P.int (Go.IntKind.i64) 6, Go.Vm.P.int (Go.IntKind.i64) 0, Go.Vm.P.str [], Go.Vm.P.list 4 [Go.Vm.P.int (Go.IntKind.i64) 12, Go.Vm.P.int (Go.IntKind.i64) 0, Go.Vm.P.str [102], Go.Vm.P.list 0 [], Go.Vm.P.int (Go.IntKind.i64) 5, Go.Vm.P.int (Go.IntKind.i64) 0, Go.Vm.P.str [], Go.Vm.P.list 4 [Go.Vm.P.int (Go.IntKind.i64) 11, Go.Vm.P.int (Go.IntKind.i64) 0, Go.Vm.P.str [], Go.Vm.P.list 0 [], Go.Vm.P.int (Go.IntKind.i64) 1, Go.Vm.P.int (Go.IntKind.i64) 4, Go.Vm.P.str [], Go.Vm.P.list 0 []]], Go.Vm.P.int (Go.IntKind.i64) 1, Go.Vm.P.int (Go.IntKind.i64) 0, Go.Vm.P.str [], Go.Vm.P.list 0 []]], Go.Vm.P.list 0 []])]
def r35 : Go.Vm.E := Go.Vm.E.p (Go.Vm.P.list 1 [Go.Vm.P.str [102]])
def q35 : PrimD := addPrim q34 12 a35 r35
theorem qOk35 : PrimOk Tryz.prog q35 := PrimOk.add' mixed progOk qOk34 (keep := keep) (F := 100000) (d := 200) (by kernel_rfl) (by kernel_rfl) (by kernel_rfl)
end Go.Proofs.YtfjmcdacnhfacaaGreatDoor.Sc
