/- Contracts of library functions, told as what the interpreter takes. Conditions: those of each contract, as hypotheses over the program. -/
import Derived.Test.YtfjmcdacnhfacaaGreatDoorVmV4
import Derived.Below
import Derived.Lib.Bytealg
import Derived.Shelf.Strings.OnBuilder
import Derived.Shelf.Strings.Count
import Derived.Shelf.Strings.Search1
set_option linter.all false
namespace Go.Vm
open Go

theorem Spec.of_calls {P : Program} {f : FuncId} {args : List E} {r : E}
    (h : ∀ (cnt : Nat → Nat) (φ : Id → Nat × Nat) (A : Nat → Nat → Prop) (w : World) (cs : Array Value), cs.size = args.length → (∀ (j : Nat) (hj : j < args.length), RepE cnt φ A w (at_ cs j) args[j]) →
      Calls P f cs w fun e w' => ∃ v, e = .returned v ∧ (∀ (cnt : Nat → Nat) (φ : Id → Nat × Nat) (A : Nat → Nat → Prop), RepE cnt φ A w' v r) ∧ Go.RowKit.Below w.heap.size w w') : Spec P f noHeap args fun _ r' => r' = r := by
  intro cnt w A φ cs hh hex hsz hrep
  refine (h cnt φ _ w cs hsz hrep).mono ?_
  rintro e w' ⟨v, rfl, hv, hB⟩
  exact ⟨v, cnt, φ, noHeap, r, rfl, rfl, fun _ => Nat.le_refl _, fun _ _ => rfl, ⟨fun id blk hb => by simp [noHeap] at hb, fun id id' b b' hb => by simp [noHeap] at hb⟩, hv _ _ _,
    fun b hb _ => hB.block b hb, hB.size, fun b arr T fr hb => ⟨arr, fr, by rw [hB.block b (lt_of_row hb)]; exact hb, rfl⟩, fun id blk hb => by simp [noHeap] at hb, hB.os, hB.output⟩

theorem two_args {cs : Array Value} (h : cs.size = 2) : cs = #[at_ cs 0, at_ cs 1] := by
  apply Array.ext
  · simpa using h
  · intro i h1 h2
    have : i = 0 ∨ i = 1 := by omega
    rcases this with rfl | rfl <;> simp [at_, h]

def primIndex : List E → Option E
  | [.p (.str s), .p (.int .u8 c)] => some (.p (.int .i64 (Lib.indexByte s c.toNat.toUInt8)))
  | _ => none

theorem primIndex_spec {P : Program} {f : FuncId} (hC : ∀ (s : ByteArray) (c : Int) (w : World), Calls P f #[.string s, .int .u8 c] w fun e w' => e = .returned (.int .i64 (Lib.indexByte s.data.toList c.toNat.toUInt8)) ∧ w' = w)
    {xs : List E} {r : E} (h : primIndex xs = some r) : Spec P f noHeap xs fun _ r' => r' = r := by
  unfold primIndex at h
  split at h
  · rename_i s c
    injection h with h; subst h
    refine Spec.of_calls fun cnt φ A w cs hsz hrep => ?_
    have h0 := hrep 0 (by simp)
    have h1 := hrep 1 (by simp)
    rw [two_args hsz]
    simp only [List.getElem_cons_zero, List.getElem_cons_succ] at h0 h1
    generalize at_ cs 0 = c0 at *
    generalize at_ cs 1 = c1 at *
    cases h0 with
    | p h0 => cases h1 with
      | p h1 =>
        cases h0; cases h1
        refine (hC _ _ w).mono ?_
        rintro e w' ⟨rfl, rfl⟩
        exact ⟨_, rfl, fun _ _ _ => .p (.int _ _), Go.RowKit.Below.refl _ _⟩
  · cases h

def primCount : List E → Option E
  | [.p (.str s), .p (.str [c])] => some (.p (.int .i64 (Lib.countByte s c)))
  | _ => none

theorem primCount_spec {P : Program} {f : FuncId} (hC : ∀ (s : ByteArray) (c : UInt8) (w : World), Calls P f #[.string s, .string ⟨#[c]⟩] w fun e w' => e = .returned (.int .i64 (Lib.countByte s.data.toList c)) ∧ w' = w)
    {xs : List E} {r : E} (h : primCount xs = some r) : Spec P f noHeap xs fun _ r' => r' = r := by
  unfold primCount at h
  split at h
  · rename_i s c
    injection h with h; subst h
    refine Spec.of_calls fun cnt φ A w cs hsz hrep => ?_
    have h0 := hrep 0 (by simp)
    have h1 := hrep 1 (by simp)
    rw [two_args hsz]
    simp only [List.getElem_cons_zero, List.getElem_cons_succ] at h0 h1
    generalize at_ cs 0 = c0 at *
    generalize at_ cs 1 = c1 at *
    cases h0 with
    | p h0 => cases h1 with
      | p h1 =>
        cases h0; cases h1
        refine (hC _ _ w).mono ?_
        rintro e w' ⟨rfl, rfl⟩
        exact ⟨_, rfl, fun _ _ _ => .p (.int _ _), Go.RowKit.Below.refl _ _⟩
  · cases h

def strsOf : List P → Option (List (List UInt8))
  | [] => some []
  | .str s :: r => (strsOf r).map (s :: ·)
  | _ => none

theorem strsOf_get : ∀ {ps : List Vm.P} {xs : List (List UInt8)}, strsOf ps = some xs → ps.length = xs.length ∧ ∀ (j : Nat) (h1 : j < ps.length) (h2 : j < xs.length), ps[j] = .str xs[j]
  | [], xs, h => by simp [strsOf] at h; subst h; exact ⟨rfl, fun j h1 _ => by simp at h1⟩
  | p :: r, xs, h => by
    cases p <;> simp only [strsOf, Option.map_eq_some_iff] at h <;> first
      | cases h
      | skip
    rename_i ys
    obtain ⟨h, rfl⟩ := ‹_ ∧ _›
    obtain ⟨g1, g2⟩ := strsOf_get h
    refine ⟨by simp [g1], fun j h1 h2 => ?_⟩
    cases j with
    | zero => rfl
    | succ j => exact g2 j (by simpa using h1) (by simpa using h2)

def primJoin : List E → Option E
  | [.p (.list 1 ps), .p (.str sep)] => match strsOf ps with
    | some xs => if xs.length ≤ 140737488355328 ∧ (Lib.join xs sep).length ≤ 140737488355328 then some (.p (.str (Lib.join xs sep))) else none
    | none => none
  | [.nil, .p (.str _)] => some (.p (.str []))
  | _ => none


theorem primJoin_spec {P : Program} {f : FuncId} (hN : ∀ (a : Option Addr) (c : Nat) (sep : ByteArray) (w : World), Calls P f #[.slice a 0 c, .string sep] w fun e w' => e = .returned (.string ⟨#[]⟩) ∧ w' = w)
    (hC : ∀ (bk o c : Nat) (xs : List ByteArray) (sep : ByteArray) (w : World), (∀ (j : Nat) x, xs[j]? = some x → w.cell? ⟨bk, o + j, none⟩ = some (.string x)) → bk < w.heap.size → xs.length ≤ 140737488355328 → xs.length ≤ c →
      (Lib.join (xs.map (·.data.toList)) sep.data.toList).length ≤ 140737488355328 →
      Calls P f #[.slice (some ⟨bk, o, none⟩) xs.length c, .string sep] w fun e w' => e = .returned (.string ⟨(Lib.join (xs.map (·.data.toList)) sep.data.toList).toArray⟩) ∧ Go.RowKit.Below w.heap.size w w')
    {xs : List E} {r : E} (h : primJoin xs = some r) : Spec P f noHeap xs fun _ r' => r' = r := by
  unfold primJoin at h
  split at h
  · rename_i ps sep
    split at h
    · rename_i ys hys
      split at h
      · rename_i hb
        injection h with h; subst h
        obtain ⟨g1, g2⟩ := strsOf_get hys
        refine Spec.of_calls fun cnt φ A w cs hsz hrep => ?_
        have h0 := hrep 0 (by simp)
        have h1 := hrep 1 (by simp)
        rw [two_args hsz]
        simp only [List.getElem_cons_zero, List.getElem_cons_succ] at h0 h1
        generalize at_ cs 0 = c0 at *
        generalize at_ cs 1 = c1 at *
        cases h1 with
        | p h1 =>
        cases h1
        cases h0 with
        | p h0 =>
        cases h0 with
        | empty a cap sz =>
          have : ys = [] := by simpa using g1.symm
          subst this
          refine (hN a cap _ w).mono ?_
          rintro e w' ⟨rfl, rfl⟩
          exact ⟨_, rfl, fun _ _ _ => .p (by simpa [Lib.join_nil] using RepP.str []), Go.RowKit.Below.refl _ _⟩
        | list q1 q2 q3 q4 q5 q6 q7 q8 =>
          rename_i bk off len cap arr T fr
          have hlen : len = ys.length := by omega
          subst hlen
          have hmap : (ys.map fun y => (⟨y.toArray⟩ : ByteArray)).map (·.data.toList) = ys := by
            rw [List.map_map]; simp [Function.comp_def]
          have := hC bk off cap (ys.map fun y => ⟨y.toArray⟩) ⟨sep.toArray⟩ w (fun j x hx => ?_) (lt_of_row q1) (by simpa using hb.1) (by simpa using q4) (by rw [hmap]; exact hb.2)
          · rw [hmap, List.length_map] at this
            refine this.mono ?_
            rintro e w' ⟨rfl, hB⟩
            exact ⟨_, rfl, fun _ _ _ => .p (RepP.str _), hB⟩
          · simp only [List.getElem?_map, Option.map_eq_some_iff] at hx
            obtain ⟨y, hy, rfl⟩ := hx
            obtain ⟨hj, rfl⟩ := List.getElem?_eq_some_iff.1 hy
            have hj' : j < ps.length := by omega
            have hc := q8 j hj'
            rw [g2 j hj' hj] at hc
            have hget : w.cell? ⟨bk, off + j, none⟩ = some (at_ arr (off + j)) := by
              have : off + j < arr.size := by omega
              simp [World.cell?, q1, at_, this]
            rw [hget]
            generalize at_ arr (off + j) = cv at hc
            cases hc
            rfl
      · cases h
    · cases h
  · rename_i sep
    injection h with h; subst h
    refine Spec.of_calls fun cnt φ A w cs hsz hrep => ?_
    have h0 := hrep 0 (by simp)
    have h1 := hrep 1 (by simp)
    rw [two_args hsz]
    simp only [List.getElem_cons_zero, List.getElem_cons_succ] at h0 h1
    generalize at_ cs 0 = c0 at *
    generalize at_ cs 1 = c1 at *
    cases h1 with
    | p h1 =>
    cases h1
    cases h0
    refine (hN none 0 _ w).mono ?_
    rintro e w' ⟨rfl, rfl⟩
    exact ⟨_, rfl, fun _ _ _ => .p (RepP.str []), Go.RowKit.Below.refl _ _⟩
  · cases h

end Go.Vm
