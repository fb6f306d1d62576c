/- The law's own body, in pieces, and laws.at. No condition. -/
import Derived.Test.YtfjmcdacnhfacaaGreatDoorVmW1
import Derived.Test.YtfjmcdacnhfacaaGreatDoorScG15
set_option linter.all false
open Go Go.Vm Go.Proofs
namespace Go.Proofs.YtfjmcdacnhfacaaGreatDoor.Sc
def stOf (o : Option (X × DS)) : DS := match o with
  | some (_, s) => s
  | none => ⟨.leaf, [], 0⟩
def sl : Code → Code
  | .seq a _ => a
  | c => c
def sr : Code → Code
  | .seq _ b => b
  | c => c
def ct : Code → Code
  | .cond _ a _ => a
  | c => c
def bdy (f : Func) : Code := f.body.getD .skip
def bOf : E → Bool
  | .p (.bool b) => b
  | _ => false
def argB (cs : List Go.Vm.P) : E := .p (.list 1 cs)
abbrev u8 (n : Int) : Go.Vm.P := .int .u8 n

/-- laws.at at 2. -/
def atN : List Go.Vm.P → Option Int
  | [] => some 62
  | [_] => some 69
  | [_, _] => some 76
  | _ :: _ :: .int .u8 c :: _ => some (IntKind.i64.wrap c)
  | _ => none
noncomputable def call7 : CallD := callD Tryz.prog prim keep 100 4
theorem callOk7 : CallOk Tryz.prog call7 := callD_ok mixed progOk primOk keep 100 4
noncomputable def body7 : Code := bdy Tryz.f7
theorem at_long (a b : Go.Vm.P) (c : Int) (r : List Go.Vm.P) : Go.Vm.Spec Tryz.prog 7 noHeap [argB (a :: b :: u8 c :: r), .p (.int .i64 2)] fun h1 r' => h1 = noHeap ∧ r' = .p (.int .i64 (IntKind.i64.wrap c)) := by
  let s0 : DS := ⟨setAll 0 [argB (a :: b :: u8 c :: r), .p (.int .i64 2)] .leaf, [], 0⟩
  let s1 : DS := stOf (codeD Tryz.prog call7 21 100 (sl body7) s0)
  let s2 : DS := stOf (codeD Tryz.prog call7 21 100 (sl (sl (sr body7))) s1)
  let s3 : DS := stOf (codeD Tryz.prog call7 21 100 (ct (sr (sl (sr body7)))) s2)
  have hb : Tryz.f7.body = some (.seq (sl body7) (.seq (.seq (sl (sl (sr body7))) (.cond (.tmp 8) (ct (sr (sl (sr body7)))) .skip)) (sr (sr body7)))) := by kernel_rfl
  have e1 : Runs Tryz.prog 21 (sl body7) s0 .norm s1 := Runs.code mixed callOk7 (f := 100) (by kernel_rfl) (by kernel_rfl)
  have e2 : Runs Tryz.prog 21 (sl (sl (sr body7))) s1 .norm s2 := Runs.code mixed callOk7 (f := 100) (by kernel_rfl) (by kernel_rfl)
  have e3 : Runs Tryz.prog 21 (ct (sr (sl (sr body7)))) s2 .ret s3 := Runs.code mixed callOk7 (f := 100) (by kernel_rfl) (by kernel_rfl)
  have hv : s2.val (.tmp 8) = .p (.bool (decide ((2 : Int) < (((a :: b :: u8 c :: r).length / 1 : Nat) : Int)))) := by kernel_rfl
  have ht : decide ((2 : Int) < (((a :: b :: u8 c :: r).length / 1 : Nat) : Int)) = true := by simp; omega
  rw [ht] at hv
  refine Spec.of_runs (e := .p (.int .i64 (IntKind.i64.wrap c))) Tryz.func7 hb (of_decide_eq_true (by kernel_rfl)) (of_decide_eq_true (by kernel_rfl)) (by kernel_rfl) (Runs.seq e1 (Runs.seqx (Runs.seq e2 (Runs.cond hv rfl e3)) (by decide))) (.inr rfl) (by kernel_rfl) (by kernel_rfl) rfl
def primAt : List E → Option E
  | [.p (.list 1 cs), .p (.int .i64 (.ofNat 2))] => (atN cs).map fun n => .p (.int .i64 n)
  | _ => none
theorem at_short (cs : List Go.Vm.P) (n : Int) (h : atN cs = some n) : Go.Vm.Spec Tryz.prog 7 noHeap [argB cs, .p (.int .i64 2)] fun _ r' => r' = .p (.int .i64 n) := by
  unfold atN at h
  split at h
  · injection h with h; subst h
    exact fun cnt => (callD_spec mixed progOk primOk (keep := keep) (F := 100) (d := 5) (c' := 0) (by kernel_rfl) (by kernel_rfl) (by kernel_rfl) cnt).mono fun _ _ _ q => q.2
  · injection h with h; subst h
    exact fun cnt => (callD_spec mixed progOk primOk (keep := keep) (F := 100) (d := 5) (c' := 0) (by kernel_rfl) (by kernel_rfl) (by kernel_rfl) cnt).mono fun _ _ _ q => q.2
  · injection h with h; subst h
    exact fun cnt => (callD_spec mixed progOk primOk (keep := keep) (F := 100) (d := 5) (c' := 0) (by kernel_rfl) (by kernel_rfl) (by kernel_rfl) cnt).mono fun _ _ _ q => q.2
  · injection h with h; subst h
    exact fun cnt => (at_long _ _ _ _ cnt).mono fun _ _ _ q => q.2
  · cases h
def qAt : PrimD := fun g => bif Nat.beq g 7 then some primAt else q47 g
theorem qAtOk : PrimOk Tryz.prog qAt := by
  refine ⟨fun g f xs r hf hr hx hn => ?_⟩
  unfold qAt at hf
  rw [beq_eq, Bool.cond_decide] at hf
  split at hf
  · rename_i hg; subst hg; injection hf with hf; subst hf
    refine ⟨⟨Tryz.f7, Tryz.func7, by kernel_rfl, by kernel_rfl⟩, ?_⟩
    unfold primAt at hr
    split at hr
    · simp only [Option.map_eq_some_iff] at hr
      obtain ⟨n, hn', rfl⟩ := hr
      exact at_short _ n hn'
    · cases hr
  · exact qOk47.ok g f xs r hf hr hx hn
noncomputable def callL : CallD := callD Tryz.prog qAt keep 100 5
theorem callOkL : CallOk Tryz.prog callL := callD_ok mixed progOk qAtOk keep 100 5
noncomputable def bodyL : Code := bdy Tryz.f3
noncomputable def ev (c : Code) (s : DS) : DS := stOf (codeD Tryz.prog callL 98 200 c s)
theorem evR {c : Code} {s : DS} {x : X} (hin : codeIn 98 c = true) (h : (codeD Tryz.prog callL 98 200 c s).map (·.1) = some x) : Runs Tryz.prog 98 c s x (ev c s) := by
  refine Runs.code mixed callOkL (f := 200) hin ?_
  unfold ev stOf
  cases hc : codeD Tryz.prog callL 98 200 c s with
  | none => rw [hc] at h; cases h
  | some y => rw [hc] at h; simp only [Option.map_some, Option.some.injEq] at h; rw [← h]
def drop (n : Nat) (c : Code) : Code := match n with
  | 0 => c
  | n + 1 => drop n (sr c)
noncomputable def c0 := sl bodyL
noncomputable def c1 := sl (sl (drop 1 bodyL))
noncomputable def c2 := ct (sr (sl (drop 1 bodyL)))
noncomputable def k (i : Nat) := sl (drop i bodyL)
noncomputable def c10 := sl (sl (drop 9 bodyL))
noncomputable def c11 := ct (sr (sl (drop 9 bodyL)))
noncomputable def cE := drop 10 bodyL
theorem shape : Tryz.f3.body = some (.seq c0 (.seq (.seq c1 (.cond (.tmp 19) c2 .skip)) (.seq (k 2) (.seq (k 3) (.seq (k 4) (.seq (k 5) (.seq (k 6) (.seq (k 7) (.seq (k 8) (.seq (.seq c10 (.cond (.tmp 57) c11 .skip)) cE)))))))))) := by kernel_rfl
noncomputable def t0 (cs : List Go.Vm.P) : DS := ⟨setAll 0 [argB cs] .leaf, [], 0⟩
noncomputable def t1 (cs : List Go.Vm.P) : DS := ev c1 (ev c0 (t0 cs))
noncomputable def t6 (cs : List Go.Vm.P) : DS := ev (k 6) (ev (k 5) (ev (k 4) (ev (k 3) (ev (k 2) (t1 cs)))))
end Go.Proofs.YtfjmcdacnhfacaaGreatDoor.Sc
