/- The law's body runs to true, whatever the bytes. No condition. -/
import Derived.Test.YtfjmcdacnhfacaaGreatDoorScL1b
set_option linter.all false
open Go Go.Vm Go.Proofs
namespace Go.Proofs.YtfjmcdacnhfacaaGreatDoor.Sc
theorem law0  : Go.Vm.Spec Tryz.prog 3 noHeap [argB []] fun _ r => r = .p (.bool true) := by
  have e0 : Runs Tryz.prog 98 c0 (t0 []) .norm (ev c0 (t0 [])) := evR (by kernel_rfl) (by kernel_rfl)
  have e1 : Runs Tryz.prog 98 c1 (ev c0 (t0 [])) .norm (t1 []) := evR (by kernel_rfl) (by kernel_rfl)
  have hv : (t1 []).val (.tmp 19) = .p (.bool (bOf ((t1 []).val (.tmp 19)))) := by kernel_rfl
  cases hb : bOf ((t1 []).val (.tmp 19)) with
  | true =>
    rw [hb] at hv
    have e2 : Runs Tryz.prog 98 c2 (t1 []) .ret (ev c2 (t1 [])) := evR (by kernel_rfl) (by kernel_rfl)
    exact fun cnt => (Spec.of_runs (e := .p (.bool true)) Tryz.func3 shape (of_decide_eq_true (by kernel_rfl)) (of_decide_eq_true (by kernel_rfl)) (by kernel_rfl) (Runs.seq e0 (Runs.seqx (Runs.seq e1 (Runs.cond hv rfl e2)) (by decide))) (.inr rfl) (by kernel_rfl) (by kernel_rfl) rfl cnt).mono fun _ _ _ q => q.2
  | false =>
    rw [hb] at hv
    have e2 : Runs Tryz.prog 98 (k 2) (t1 []) .norm (ev (k 2) (t1 [])) := evR (by kernel_rfl) (by kernel_rfl)
    have e3 : Runs Tryz.prog 98 (k 3) (ev (k 2) (t1 [])) .norm (ev (k 3) (ev (k 2) (t1 []))) := evR (by kernel_rfl) (by kernel_rfl)
    have e4 : Runs Tryz.prog 98 (k 4) (ev (k 3) (ev (k 2) (t1 []))) .norm (ev (k 4) (ev (k 3) (ev (k 2) (t1 [])))) := evR (by kernel_rfl) (by kernel_rfl)
    have e5 : Runs Tryz.prog 98 (k 5) (ev (k 4) (ev (k 3) (ev (k 2) (t1 [])))) .norm (ev (k 5) (ev (k 4) (ev (k 3) (ev (k 2) (t1 []))))) := evR (by kernel_rfl) (by kernel_rfl)
    have e6 : Runs Tryz.prog 98 (k 6) (ev (k 5) (ev (k 4) (ev (k 3) (ev (k 2) (t1 []))))) .norm (ev (k 6) (ev (k 5) (ev (k 4) (ev (k 3) (ev (k 2) (t1 [])))))) := evR (by kernel_rfl) (by kernel_rfl)
    have e10 : Runs Tryz.prog 98 c10 (t8 []) .norm (t10 []) := evR (by kernel_rfl) (by kernel_rfl)
    have hw : (t10 []).val (.tmp 57) = .p (.bool (bOf ((t10 []).val (.tmp 57)))) := by kernel_rfl
    cases hd : bOf ((t10 []).val (.tmp 57)) with
    | true =>
      rw [hd] at hw
      have e11 : Runs Tryz.prog 98 c11 (t10 []) .norm (ev c11 (t10 [])) := evR (by kernel_rfl) (by kernel_rfl)
      have eE : Runs Tryz.prog 98 cE (freezeSlot (ev c11 (t10 [])) 9) .ret (ev cE (freezeSlot (ev c11 (t10 [])) 9)) := evR (by kernel_rfl) (by kernel_rfl)
      exact fun cnt => (Spec.of_runs (e := .p (.bool true)) Tryz.func3 shape (of_decide_eq_true (by kernel_rfl)) (of_decide_eq_true (by kernel_rfl)) (by kernel_rfl) (Runs.seq e0 (Runs.seq (Runs.seq e1 (Runs.cond hv rfl Runs.skip)) (Runs.seq e2 (Runs.seq e3 (Runs.seq e4 (Runs.seq e5 (Runs.seq e6 (mid _ (Runs.seq (Runs.seq e10 (Runs.cond hw rfl e11)) (Runs.freeze 9 eE)))))))))) (.inr rfl) (by kernel_rfl) (by kernel_rfl) rfl cnt).mono fun _ _ _ q => q.2
    | false =>
      rw [hd] at hw
      have eE : Runs Tryz.prog 98 cE (freezeSlot (t10 []) 9) .ret (ev cE (freezeSlot (t10 []) 9)) := evR (by kernel_rfl) (by kernel_rfl)
      exact fun cnt => (Spec.of_runs (e := .p (.bool true)) Tryz.func3 shape (of_decide_eq_true (by kernel_rfl)) (of_decide_eq_true (by kernel_rfl)) (by kernel_rfl) (Runs.seq e0 (Runs.seq (Runs.seq e1 (Runs.cond hv rfl Runs.skip)) (Runs.seq e2 (Runs.seq e3 (Runs.seq e4 (Runs.seq e5 (Runs.seq e6 (mid _ (Runs.seq (Runs.seq e10 (Runs.cond hw rfl Runs.skip)) (Runs.freeze 9 eE)))))))))) (.inr rfl) (by kernel_rfl) (by kernel_rfl) rfl cnt).mono fun _ _ _ q => q.2
theorem law1 (a : Go.Vm.P) : Go.Vm.Spec Tryz.prog 3 noHeap [argB [a]] fun _ r => r = .p (.bool true) := by
  have e0 : Runs Tryz.prog 98 c0 (t0 [a]) .norm (ev c0 (t0 [a])) := evR (by kernel_rfl) (by kernel_rfl)
  have e1 : Runs Tryz.prog 98 c1 (ev c0 (t0 [a])) .norm (t1 [a]) := evR (by kernel_rfl) (by kernel_rfl)
  have hv : (t1 [a]).val (.tmp 19) = .p (.bool (bOf ((t1 [a]).val (.tmp 19)))) := by kernel_rfl
  cases hb : bOf ((t1 [a]).val (.tmp 19)) with
  | true =>
    rw [hb] at hv
    have e2 : Runs Tryz.prog 98 c2 (t1 [a]) .ret (ev c2 (t1 [a])) := evR (by kernel_rfl) (by kernel_rfl)
    exact fun cnt => (Spec.of_runs (e := .p (.bool true)) Tryz.func3 shape (of_decide_eq_true (by kernel_rfl)) (of_decide_eq_true (by kernel_rfl)) (by kernel_rfl) (Runs.seq e0 (Runs.seqx (Runs.seq e1 (Runs.cond hv rfl e2)) (by decide))) (.inr rfl) (by kernel_rfl) (by kernel_rfl) rfl cnt).mono fun _ _ _ q => q.2
  | false =>
    rw [hb] at hv
    have e2 : Runs Tryz.prog 98 (k 2) (t1 [a]) .norm (ev (k 2) (t1 [a])) := evR (by kernel_rfl) (by kernel_rfl)
    have e3 : Runs Tryz.prog 98 (k 3) (ev (k 2) (t1 [a])) .norm (ev (k 3) (ev (k 2) (t1 [a]))) := evR (by kernel_rfl) (by kernel_rfl)
    have e4 : Runs Tryz.prog 98 (k 4) (ev (k 3) (ev (k 2) (t1 [a]))) .norm (ev (k 4) (ev (k 3) (ev (k 2) (t1 [a])))) := evR (by kernel_rfl) (by kernel_rfl)
    have e5 : Runs Tryz.prog 98 (k 5) (ev (k 4) (ev (k 3) (ev (k 2) (t1 [a])))) .norm (ev (k 5) (ev (k 4) (ev (k 3) (ev (k 2) (t1 [a]))))) := evR (by kernel_rfl) (by kernel_rfl)
    have e6 : Runs Tryz.prog 98 (k 6) (ev (k 5) (ev (k 4) (ev (k 3) (ev (k 2) (t1 [a]))))) .norm (ev (k 6) (ev (k 5) (ev (k 4) (ev (k 3) (ev (k 2) (t1 [a])))))) := evR (by kernel_rfl) (by kernel_rfl)
    have e10 : Runs Tryz.prog 98 c10 (t8 [a]) .norm (t10 [a]) := evR (by kernel_rfl) (by kernel_rfl)
    have hw : (t10 [a]).val (.tmp 57) = .p (.bool (bOf ((t10 [a]).val (.tmp 57)))) := by kernel_rfl
    cases hd : bOf ((t10 [a]).val (.tmp 57)) with
    | true =>
      rw [hd] at hw
      have e11 : Runs Tryz.prog 98 c11 (t10 [a]) .norm (ev c11 (t10 [a])) := evR (by kernel_rfl) (by kernel_rfl)
      have eE : Runs Tryz.prog 98 cE (freezeSlot (ev c11 (t10 [a])) 9) .ret (ev cE (freezeSlot (ev c11 (t10 [a])) 9)) := evR (by kernel_rfl) (by kernel_rfl)
      exact fun cnt => (Spec.of_runs (e := .p (.bool true)) Tryz.func3 shape (of_decide_eq_true (by kernel_rfl)) (of_decide_eq_true (by kernel_rfl)) (by kernel_rfl) (Runs.seq e0 (Runs.seq (Runs.seq e1 (Runs.cond hv rfl Runs.skip)) (Runs.seq e2 (Runs.seq e3 (Runs.seq e4 (Runs.seq e5 (Runs.seq e6 (mid _ (Runs.seq (Runs.seq e10 (Runs.cond hw rfl e11)) (Runs.freeze 9 eE)))))))))) (.inr rfl) (by kernel_rfl) (by kernel_rfl) rfl cnt).mono fun _ _ _ q => q.2
    | false =>
      rw [hd] at hw
      have eE : Runs Tryz.prog 98 cE (freezeSlot (t10 [a]) 9) .ret (ev cE (freezeSlot (t10 [a]) 9)) := evR (by kernel_rfl) (by kernel_rfl)
      exact fun cnt => (Spec.of_runs (e := .p (.bool true)) Tryz.func3 shape (of_decide_eq_true (by kernel_rfl)) (of_decide_eq_true (by kernel_rfl)) (by kernel_rfl) (Runs.seq e0 (Runs.seq (Runs.seq e1 (Runs.cond hv rfl Runs.skip)) (Runs.seq e2 (Runs.seq e3 (Runs.seq e4 (Runs.seq e5 (Runs.seq e6 (mid _ (Runs.seq (Runs.seq e10 (Runs.cond hw rfl Runs.skip)) (Runs.freeze 9 eE)))))))))) (.inr rfl) (by kernel_rfl) (by kernel_rfl) rfl cnt).mono fun _ _ _ q => q.2
theorem law2 (a b : Go.Vm.P) : Go.Vm.Spec Tryz.prog 3 noHeap [argB [a, b]] fun _ r => r = .p (.bool true) := by
  have e0 : Runs Tryz.prog 98 c0 (t0 [a, b]) .norm (ev c0 (t0 [a, b])) := evR (by kernel_rfl) (by kernel_rfl)
  have e1 : Runs Tryz.prog 98 c1 (ev c0 (t0 [a, b])) .norm (t1 [a, b]) := evR (by kernel_rfl) (by kernel_rfl)
  have hv : (t1 [a, b]).val (.tmp 19) = .p (.bool (bOf ((t1 [a, b]).val (.tmp 19)))) := by kernel_rfl
  cases hb : bOf ((t1 [a, b]).val (.tmp 19)) with
  | true =>
    rw [hb] at hv
    have e2 : Runs Tryz.prog 98 c2 (t1 [a, b]) .ret (ev c2 (t1 [a, b])) := evR (by kernel_rfl) (by kernel_rfl)
    exact fun cnt => (Spec.of_runs (e := .p (.bool true)) Tryz.func3 shape (of_decide_eq_true (by kernel_rfl)) (of_decide_eq_true (by kernel_rfl)) (by kernel_rfl) (Runs.seq e0 (Runs.seqx (Runs.seq e1 (Runs.cond hv rfl e2)) (by decide))) (.inr rfl) (by kernel_rfl) (by kernel_rfl) rfl cnt).mono fun _ _ _ q => q.2
  | false =>
    rw [hb] at hv
    have e2 : Runs Tryz.prog 98 (k 2) (t1 [a, b]) .norm (ev (k 2) (t1 [a, b])) := evR (by kernel_rfl) (by kernel_rfl)
    have e3 : Runs Tryz.prog 98 (k 3) (ev (k 2) (t1 [a, b])) .norm (ev (k 3) (ev (k 2) (t1 [a, b]))) := evR (by kernel_rfl) (by kernel_rfl)
    have e4 : Runs Tryz.prog 98 (k 4) (ev (k 3) (ev (k 2) (t1 [a, b]))) .norm (ev (k 4) (ev (k 3) (ev (k 2) (t1 [a, b])))) := evR (by kernel_rfl) (by kernel_rfl)
    have e5 : Runs Tryz.prog 98 (k 5) (ev (k 4) (ev (k 3) (ev (k 2) (t1 [a, b])))) .norm (ev (k 5) (ev (k 4) (ev (k 3) (ev (k 2) (t1 [a, b]))))) := evR (by kernel_rfl) (by kernel_rfl)
    have e6 : Runs Tryz.prog 98 (k 6) (ev (k 5) (ev (k 4) (ev (k 3) (ev (k 2) (t1 [a, b]))))) .norm (ev (k 6) (ev (k 5) (ev (k 4) (ev (k 3) (ev (k 2) (t1 [a, b])))))) := evR (by kernel_rfl) (by kernel_rfl)
    have e10 : Runs Tryz.prog 98 c10 (t8 [a, b]) .norm (t10 [a, b]) := evR (by kernel_rfl) (by kernel_rfl)
    have hw : (t10 [a, b]).val (.tmp 57) = .p (.bool (bOf ((t10 [a, b]).val (.tmp 57)))) := by kernel_rfl
    cases hd : bOf ((t10 [a, b]).val (.tmp 57)) with
    | true =>
      rw [hd] at hw
      have e11 : Runs Tryz.prog 98 c11 (t10 [a, b]) .norm (ev c11 (t10 [a, b])) := evR (by kernel_rfl) (by kernel_rfl)
      have eE : Runs Tryz.prog 98 cE (freezeSlot (ev c11 (t10 [a, b])) 9) .ret (ev cE (freezeSlot (ev c11 (t10 [a, b])) 9)) := evR (by kernel_rfl) (by kernel_rfl)
      exact fun cnt => (Spec.of_runs (e := .p (.bool true)) Tryz.func3 shape (of_decide_eq_true (by kernel_rfl)) (of_decide_eq_true (by kernel_rfl)) (by kernel_rfl) (Runs.seq e0 (Runs.seq (Runs.seq e1 (Runs.cond hv rfl Runs.skip)) (Runs.seq e2 (Runs.seq e3 (Runs.seq e4 (Runs.seq e5 (Runs.seq e6 (mid _ (Runs.seq (Runs.seq e10 (Runs.cond hw rfl e11)) (Runs.freeze 9 eE)))))))))) (.inr rfl) (by kernel_rfl) (by kernel_rfl) rfl cnt).mono fun _ _ _ q => q.2
    | false =>
      rw [hd] at hw
      have eE : Runs Tryz.prog 98 cE (freezeSlot (t10 [a, b]) 9) .ret (ev cE (freezeSlot (t10 [a, b]) 9)) := evR (by kernel_rfl) (by kernel_rfl)
      exact fun cnt => (Spec.of_runs (e := .p (.bool true)) Tryz.func3 shape (of_decide_eq_true (by kernel_rfl)) (of_decide_eq_true (by kernel_rfl)) (by kernel_rfl) (Runs.seq e0 (Runs.seq (Runs.seq e1 (Runs.cond hv rfl Runs.skip)) (Runs.seq e2 (Runs.seq e3 (Runs.seq e4 (Runs.seq e5 (Runs.seq e6 (mid _ (Runs.seq (Runs.seq e10 (Runs.cond hw rfl Runs.skip)) (Runs.freeze 9 eE)))))))))) (.inr rfl) (by kernel_rfl) (by kernel_rfl) rfl cnt).mono fun _ _ _ q => q.2
theorem law3 (a b : Go.Vm.P) (c : Int) (l : List Go.Vm.P) : Go.Vm.Spec Tryz.prog 3 noHeap [argB (a :: b :: u8 c :: l)] fun _ r => r = .p (.bool true) := by
  have e0 : Runs Tryz.prog 98 c0 (t0 (a :: b :: u8 c :: l)) .norm (ev c0 (t0 (a :: b :: u8 c :: l))) := evR (by kernel_rfl) (by kernel_rfl)
  have e1 : Runs Tryz.prog 98 c1 (ev c0 (t0 (a :: b :: u8 c :: l))) .norm (t1 (a :: b :: u8 c :: l)) := evR (by kernel_rfl) (by kernel_rfl)
  have hv : (t1 (a :: b :: u8 c :: l)).val (.tmp 19) = .p (.bool (bOf ((t1 (a :: b :: u8 c :: l)).val (.tmp 19)))) := by kernel_rfl
  cases hb : bOf ((t1 (a :: b :: u8 c :: l)).val (.tmp 19)) with
  | true =>
    rw [hb] at hv
    have e2 : Runs Tryz.prog 98 c2 (t1 (a :: b :: u8 c :: l)) .ret (ev c2 (t1 (a :: b :: u8 c :: l))) := evR (by kernel_rfl) (by kernel_rfl)
    exact fun cnt => (Spec.of_runs (e := .p (.bool true)) Tryz.func3 shape (of_decide_eq_true (by kernel_rfl)) (of_decide_eq_true (by kernel_rfl)) (by kernel_rfl) (Runs.seq e0 (Runs.seqx (Runs.seq e1 (Runs.cond hv rfl e2)) (by decide))) (.inr rfl) (by kernel_rfl) (by kernel_rfl) rfl cnt).mono fun _ _ _ q => q.2
  | false =>
    rw [hb] at hv
    have e2 : Runs Tryz.prog 98 (k 2) (t1 (a :: b :: u8 c :: l)) .norm (ev (k 2) (t1 (a :: b :: u8 c :: l))) := evR (by kernel_rfl) (by kernel_rfl)
    have e3 : Runs Tryz.prog 98 (k 3) (ev (k 2) (t1 (a :: b :: u8 c :: l))) .norm (ev (k 3) (ev (k 2) (t1 (a :: b :: u8 c :: l)))) := evR (by kernel_rfl) (by kernel_rfl)
    have e4 : Runs Tryz.prog 98 (k 4) (ev (k 3) (ev (k 2) (t1 (a :: b :: u8 c :: l)))) .norm (ev (k 4) (ev (k 3) (ev (k 2) (t1 (a :: b :: u8 c :: l))))) := evR (by kernel_rfl) (by kernel_rfl)
    have e5 : Runs Tryz.prog 98 (k 5) (ev (k 4) (ev (k 3) (ev (k 2) (t1 (a :: b :: u8 c :: l))))) .norm (ev (k 5) (ev (k 4) (ev (k 3) (ev (k 2) (t1 (a :: b :: u8 c :: l)))))) := evR (by kernel_rfl) (by kernel_rfl)
    have e6 : Runs Tryz.prog 98 (k 6) (ev (k 5) (ev (k 4) (ev (k 3) (ev (k 2) (t1 (a :: b :: u8 c :: l)))))) .norm (ev (k 6) (ev (k 5) (ev (k 4) (ev (k 3) (ev (k 2) (t1 (a :: b :: u8 c :: l))))))) := evR (by kernel_rfl) (by kernel_rfl)
    have e10 : Runs Tryz.prog 98 c10 (t8 (a :: b :: u8 c :: l)) .norm (t10 (a :: b :: u8 c :: l)) := evR (by kernel_rfl) (by kernel_rfl)
    have hw : (t10 (a :: b :: u8 c :: l)).val (.tmp 57) = .p (.bool (bOf ((t10 (a :: b :: u8 c :: l)).val (.tmp 57)))) := by kernel_rfl
    cases hd : bOf ((t10 (a :: b :: u8 c :: l)).val (.tmp 57)) with
    | true =>
      rw [hd] at hw
      have e11 : Runs Tryz.prog 98 c11 (t10 (a :: b :: u8 c :: l)) .norm (ev c11 (t10 (a :: b :: u8 c :: l))) := evR (by kernel_rfl) (by kernel_rfl)
      have eE : Runs Tryz.prog 98 cE (freezeSlot (ev c11 (t10 (a :: b :: u8 c :: l))) 9) .ret (ev cE (freezeSlot (ev c11 (t10 (a :: b :: u8 c :: l))) 9)) := evR (by kernel_rfl) (by kernel_rfl)
      exact fun cnt => (Spec.of_runs (e := .p (.bool true)) Tryz.func3 shape (of_decide_eq_true (by kernel_rfl)) (of_decide_eq_true (by kernel_rfl)) (by kernel_rfl) (Runs.seq e0 (Runs.seq (Runs.seq e1 (Runs.cond hv rfl Runs.skip)) (Runs.seq e2 (Runs.seq e3 (Runs.seq e4 (Runs.seq e5 (Runs.seq e6 (mid _ (Runs.seq (Runs.seq e10 (Runs.cond hw rfl e11)) (Runs.freeze 9 eE)))))))))) (.inr rfl) (by kernel_rfl) (by kernel_rfl) rfl cnt).mono fun _ _ _ q => q.2
    | false =>
      rw [hd] at hw
      have eE : Runs Tryz.prog 98 cE (freezeSlot (t10 (a :: b :: u8 c :: l)) 9) .ret (ev cE (freezeSlot (t10 (a :: b :: u8 c :: l)) 9)) := evR (by kernel_rfl) (by kernel_rfl)
      exact fun cnt => (Spec.of_runs (e := .p (.bool true)) Tryz.func3 shape (of_decide_eq_true (by kernel_rfl)) (of_decide_eq_true (by kernel_rfl)) (by kernel_rfl) (Runs.seq e0 (Runs.seq (Runs.seq e1 (Runs.cond hv rfl Runs.skip)) (Runs.seq e2 (Runs.seq e3 (Runs.seq e4 (Runs.seq e5 (Runs.seq e6 (mid _ (Runs.seq (Runs.seq e10 (Runs.cond hw rfl Runs.skip)) (Runs.freeze 9 eE)))))))))) (.inr rfl) (by kernel_rfl) (by kernel_rfl) rfl cnt).mono fun _ _ _ q => q.2
theorem law_all (cs : List Go.Vm.P) (h : ∀ x ∈ cs, ∃ n, x = u8 n) : Go.Vm.Spec Tryz.prog 3 noHeap [argB cs] fun _ r => r = .p (.bool true) := by
  match cs with
  | [] => exact law0
  | [a] => exact law1 a
  | [a, b] => exact law2 a b
  | a :: b :: c :: l =>
    obtain ⟨n, rfl⟩ := h c (by simp)
    exact law3 a b n l
end Go.Proofs.YtfjmcdacnhfacaaGreatDoor.Sc
