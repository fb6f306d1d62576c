/- The law FnLacking holds: row and card. Conditions: those of the given row alone. -/
import Derived.Test.YtfjmcdacnhfacaaGreatDoorScL2
import Derived.Test.YtfjmcdacnhfacaaGreatDoorTie
import Derived.Test.YtfjmcdacnhfacaaGreatDoorCards
import Derived.ProofKit
import Derived.OpenShut
import Derived.LaidMore
import Derived.Lay
import Derived.SevenTiedAt
import Derived.Stop.Joined
import Derived.ChangeSlices
import Derived.MakeChecks
import Derived.Carry
set_option linter.all false
namespace Go.Proofs.YtfjmcdacnhfacaaGreatDoor
open Go.ChangeShapes Go.WideShapes Go.ChangeAt Go.RowKit

theorem own : ownKnob Tryz.prog.godebug = none := by kernel_rfl
theorem laidOut : laidOutB Tryz.prog = true := by kernel_rfl
theorem cells5 : Tryz.prog.cellsOf 5 = 1 := by kernel_rfl

theorem cell_row {W : World} {a : Addr} {v : Value} (h : W.cell? a = some v) : a.spot = none ∧ ∃ arr T fr, W.heap[a.block]? = some (.cells arr T fr) ∧ a.off < arr.size ∧ Vm.at_ arr a.off = v := by
  unfold World.cell? at h
  split at h
  · rename_i c T fr hc
    split at h
    · cases h
    · rename_i hs
      refine ⟨by simpa using hs, c, T, fr, hc, ?_, ?_⟩
      · exact (Array.getElem?_eq_some_iff.1 h).1
      · simp [Vm.at_, h]
  · cases h

set_option maxRecDepth 100000 in
/-- A slice of bytes that came in, as the abstract states tell it. -/
theorem bytes_rep {H : Type} {enc : TypeId × Value → H} {W : World} {r : Reach} {b0 : Nat} {v : Value} {d : DataW H} {p : List MemPlace} (hval : Value.okWide Tryz.prog W r b0 22 v) (h : DataW.Trod enc Tryz.prog W 0 (fun _ => true) true 22 v d p) :
    ∃ cs : List Vm.P, (∀ x ∈ cs, ∃ n, x = Sc.u8 n) ∧ ∀ (cnt : Nat → Nat) (φ : Vm.Id → Nat × Nat), Vm.RepE cnt φ (Vm.Ok (Vm.ctxOf W (fun _ _ => True) Vm.noHeap φ cnt) Vm.noHeap φ) W v (Sc.argB cs) := by
  obtain ⟨a0, len0, cap0, rfl⟩ := okWide_slice Tryz.underlying22 hval
  obtain ⟨fuel, h⟩ := h
  rcases open_ints Tryz.underlying22 Tryz.underlying5 cells5 h with ⟨hv, _⟩ | ⟨a, len, cap, zs, hv, hb, hl, hm, hz, hx, hi, hwf⟩
  · refine ⟨[], fun x hx => by simp at hx, fun cnt φ => ?_⟩
    simp only [Value.cells, List.cons.injEq, Value.slice.injEq, and_true] at hv
    obtain ⟨rfl, rfl, rfl⟩ := hv
    exact .p (.empty _ _ _)
  · simp only [Value.cells, List.cons.injEq, Value.slice.injEq, and_true] at hv
    obtain ⟨rfl, rfl, rfl⟩ := hv
    have hzl : zs.length = cap0 := by simpa using hz
    refine ⟨(zs.take len0).map Sc.u8, fun x hx => by obtain ⟨n, _, rfl⟩ := List.mem_map.1 hx; exact ⟨n, rfl⟩, fun cnt φ => ?_⟩
    rcases Nat.eq_zero_or_pos len0 with h0 | hpos
    · subst h0
      simp only [List.take_zero, List.map_nil]
      exact .p (.empty _ _ _)
    · have h0 := cell_row (hi 0 (by omega))
      obtain ⟨hs, arr, T, fr, hrow, _, _⟩ := h0
      have hs' : a.spot = none := by simpa [Addr.add] using hs
      have hrow' : W.heap[a.block]? = some (.cells arr T fr) := by simpa [Addr.add] using hrow
      obtain ⟨blk, off, spot⟩ := a
      simp only at hs' hrow'
      subst hs'
      have hall : ∀ j, j < len0 → off + j < arr.size ∧ Vm.at_ arr (off + j) = .int .u8 (zs.getD j 0) := by
        intro j hj
        have := cell_row (hi j (by omega))
        rw [Vm.add_plain] at this
        obtain ⟨_, arr', T', fr', r1, r2, r3⟩ := this
        simp only at r1 r2 r3
        rw [hrow'] at r1
        injection r1 with r1; injection r1 with e1 e2 e3; subst e1
        exact ⟨r2, r3⟩
      have hlt : blk < W.heap.size := Vm.lt_of_row hrow'
      have hlen : ((zs.take len0).map Sc.u8).length = len0 * 1 := by simp; omega
      refine .p (.list (b := blk) (off := off) (arr := arr) (T := T) (fr := fr) hrow' (by decide) hlen hl ?_ (fun j hj => ?_) (fun j hj => ?_) fun j hj => ?_)
      · have := (hall (len0 - 1) (by omega)).1
        rw [hlen]; omega
      · refine .inr ⟨?_, trivial⟩
        rintro (q | ⟨id, b, hb', _⟩)
        · exact absurd hlt (Nat.not_lt.2 q)
        · simp [Vm.noHeap] at hb'
      · rw [hlen] at hj
        rw [(hall j (by omega)).2]; rfl
      · rw [hlen] at hj
        rw [(hall j (by omega)).2]
        have : ((zs.take len0).map Sc.u8)[j]'(by rw [hlen]; exact hj) = Sc.u8 (zs.getD j 0) := by
          simp [List.getD, List.getElem?_eq_getElem (show j < zs.length by omega)]
        rw [this]
        exact .int _ _

/-- The law's call: true, and nothing that was there is turned. -/
theorem law_calls {W : World} {v : Value} {cs : List Vm.P} (hu : ∀ x ∈ cs, ∃ n, x = Sc.u8 n) (hv : ∀ (cnt : Nat → Nat) (φ : Vm.Id → Nat × Nat), Vm.RepE cnt φ (Vm.Ok (Vm.ctxOf W (fun _ _ => True) Vm.noHeap φ cnt) Vm.noHeap φ) W v (Sc.argB cs)) :
    Calls Tryz.prog 3 #[v] W fun e W' => e = .returned (.bool true) ∧ W'.os = W.os ∧ W'.output = W.output ∧ W.heap.size ≤ W'.heap.size ∧ ∀ k, k < W.heap.size → W'.heap[k]? = W.heap[k]? := by
  refine (Sc.law_all cs hu (fun _ => 0) W (fun _ _ => True) (fun _ => (0, 0)) #[v] ⟨fun id b hb => by simp [Vm.noHeap] at hb, fun id id' b b' hb => by simp [Vm.noHeap] at hb⟩ (fun id b hb => by simp [Vm.noHeap] at hb) rfl fun j hj => ?_).mono ?_
  · have : j = 0 := by simpa using hj
    subst this
    exact hv _ _
  · rintro e W' ⟨x, cnt', φ', h1, r, rfl, rfl, c1, c2, c3, c4, c5, c6, c7, c8, c9⟩
    refine ⟨?_, c9.1, c9.2, c6, fun k hk => c5 k hk fun ⟨id, b, hb, _⟩ => by simp [Vm.noHeap] at hb⟩
    cases c4 with
    | p h => cases h; rfl

set_option maxRecDepth 100000 in
theorem lifted (os : Os) (started : os.Started) (H : Type) (enc : TypeId × Value → H) :
    ReturnsInHanded {} Tryz.checked os 3 .any (fun w args => (Rows.fnLackingSpec.pre enc Tryz.prog Tryz.f3 Rows.fnLackingRow.domain false w args ∧ laidMetH Tryz.prog Rows.fnLackingRow.laid w) ∧ sizedMet enc Tryz.prog Tryz.f3 (OpenSpec.ofChange Rows.fnLackingSpec) false w args)
      (Rows.fnLackingSpec.post enc Tryz.prog Tryz.f3 false true false false) := by
  refine returnsInHanded_of_change_and (C := Tryz.checked) (X := fun w _ => laidMetH Tryz.prog Rows.fnLackingRow.laid w) (fun _ _ _ hh h => h.of_heap hh) own started (by kernel_rfl) Tryz.func3
    (ChangeSpec.witness_shaped (enc := enc) (C := Tryz.checked) (os := os) (X := fun w _ => laidMetH Tryz.prog Rows.fnLackingRow.laid w) false (World.laidAll Tryz.prog os Rows.fnLackingRow.laid) #[.slice none 0 0] 8 (World.laidAll_os _ _ _)
      (World.shaped_of_ZipB (by kernel_rfl) (by kernel_rfl)) (by kernel_rfl) (by kernel_rfl) (by kernel_rfl)
      (by rw [MakeChecks.laidMetH_plain _ _ _ (by kernel_rfl)]; exact laidMet_laidAll _ (by kernel_rfl) (by kernel_rfl))) ?_
  intro W base args ds gs before hval0 hW _ _ _ _
  have hval : ∀ (j : Nat) t v, Tryz.f3.params[j]? = some t → args[j]? = some v → Value.okWide Tryz.prog W .any base t v := hval0
  have hW' := hW
  obtain ⟨p, q, hA0, hV, rfl, _, _⟩ := hW
  have hA : DataW.TrodAll enc Tryz.prog W 0 (fun _ => true) true Tryz.f3.params.toList args.toList ds p := hA0
  rw [Tryz.params3] at hA hval
  obtain ⟨v0, d0, rfl, rfl, h0⟩ := trodAll_one hA
  obtain ⟨rfl, rfl⟩ := trodVars_none hV
  simp only [List.append_nil] at hW'
  obtain ⟨cs, hu, hv⟩ := bytes_rep (hval 0 22 v0 rfl rfl) h0
  refine (law_calls hu hv).mono ?_
  rintro e W' ⟨rfl, ho1, ho2, hsz, hblk⟩
  have hlt : ∀ x ∈ p, x.block < W.heap.size := fun x hx => hW'.lt x hx
  have hsame : ∀ x ∈ p, W.sameAt W' x := fun x hx => by
    cases x with
    | cell b o => exact World.cell?_of_block (w := W) (hblk b (hlt _ hx))
    | map b => exact hblk b (hlt _ hx)
  refine ⟨_, rfl, [d0], [], p, [], p, [], by simpa using hW', ?_, ?_, rfl, ⟨ho1, ho2, fun i hi => ?_⟩, fun h => by cases h⟩
  · exact trodAll_mk1 (shut_bool Tryz.underlying4 true)
  · exact trodAll_mk1 (WideElems.Trod_stays laidOut (by kernel_rfl) (of_decide_eq_true (by kernel_rfl)) h0 hsame fun x hx => by simpa using hlt x hx)
  · rw [hblk i hi]
    split <;> simp_all

theorem holds : Rows.FnLackingSaid :=
  OpenClaim.holds_of_wide 3 Tryz.f3 rfl rfl rfl rfl rfl rfl rfl ⟨rfl, rfl, rfl, rfl, rfl⟩ rfl rfl rfl rfl rfl (by kernel_rfl) Tryz.func3 (by kernel_rfl)
    (of_decide_eq_true (by kernel_rfl)) (by unfold Func.isWrapper; first | (rw [if_pos (by decide +kernel)]; kernel_rfl) | (rw [if_neg (by decide +kernel)]; exact ⟨rfl, rfl⟩))
    (fun os started H enc _ => lifted os started H enc)
theorem card_holds : Rows.FnLackingCardSaid :=
  Claim7.holds_tied_plain_at .later [] [.data, .data, .data, .data, .sentinel, .sentinel, .pinned] true (true, "b6a0b406ee1cac1f641a0e912c598f809dfb2ca514ae9d0b7073c847883fddaf") true holds (fun _ h => by cases h) (by kernel_rfl) (fun _ h => by cases h) fnLacking_row_tie rfl ⟨rfl, rfl⟩ (by kernel_rfl) rfl
    (fun f fn hf hfn => by
      obtain rfl : f = 3 := Option.some.inj ((show Tryz.prog.funcNamed "loop.example/g00329/laws.FnLacking" = some 3 by kernel_rfl).symm.trans hf) |>.symm
      obtain rfl : fn = Tryz.f3 := (Option.some.inj (Tryz.func3.symm.trans hfn)).symm
      exact ⟨by kernel_rfl, fun j t ht => by
        rw [Tryz.params3] at ht
        have hm : t ∈ [22] := by simpa using Array.mem_of_getElem? ht
        have hall : ([22].all fun u => !Tryz.prog.wantsStandIn u) = true := by kernel_rfl
        exact (show Tryz.prog.wantsStandIn t = false by simpa using List.all_eq_true.1 hall t hm)⟩)
    (by kernel_rfl)
#print axioms card_holds
end Go.Proofs.YtfjmcdacnhfacaaGreatDoor
