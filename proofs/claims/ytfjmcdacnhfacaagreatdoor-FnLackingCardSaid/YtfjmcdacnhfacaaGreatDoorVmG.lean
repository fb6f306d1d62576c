/- Blocks that are shared, dropped, or grow: append and copy. No condition. -/
import Derived.Test.YtfjmcdacnhfacaaGreatDoorVmF
set_option linter.all false
namespace Go.Vm
open Go

section
variable {C : Ctx} {s : St} {φ : Id → Nat × Nat} {a : Act} {w w' : World}

/-- Fewer rights: blocks that are dropped, or shared from now on. -/
theorem SimAt.weaken (h : SimAt C s φ a w) {h' : Heap} (hs : ∀ id b, h' id = some b → ∃ b0, s.heap id = some b0 ∧ b0.cells = b.cells ∧ (b.excl = true → b0.excl = true)) :
    SimAt C { s with heap := h' } φ a w := by
  have hU : ∀ b i, U h' φ b i → U s.heap φ b i := by
    rintro b i ⟨id, blk, g1, g2, g3⟩
    obtain ⟨b0, e1, e2, e3⟩ := hs _ _ g1
    exact ⟨id, b0, e1, g2, g3.imp e3 fun g => by rw [e2]; exact g⟩
  have hk : Keeps (Ok C s.heap φ) w (Ok C h' φ) w := Keeps.refl fun b i hi => by
    rcases hi with ⟨q1, q2⟩ | ⟨q1, q2⟩
    · exact .inl ⟨q1, fun hu => q2 (hU b i hu)⟩
    · exact .inr ⟨q1, q2⟩
  refine h.evolve (cnt' := s.cnt) (fun _ => Nat.le_refl _) (fun _ _ => rfl) hk ⟨fun id b hb => ?_, fun id id' b b' h1 h2 he => ?_⟩ (fun _ _ _ => rfl) (Nat.le_refl _) .refl
  · obtain ⟨b0, e1, e2, _⟩ := hs _ _ hb
    obtain ⟨p1, p2, arr, T, fr, r1, r2, r3, r4, r5⟩ := h.heap.blk id b0 e1
    refine ⟨p1, p2, arr, T, fr, r1, by rw [← e2]; exact r2, r3, fun j hj => r4 j (by rw [e2]; exact hj), fun j hj => ?_⟩
    have := (r5 j (by rw [e2]; exact hj)).mono (fun _ => Nat.le_refl _) (fun _ _ => rfl) hk
    simpa [e2] using this
  · obtain ⟨b0, e1, _⟩ := hs _ _ h1
    obtain ⟨b1, e2, _⟩ := hs _ _ h2
    exact h.heap.inj id id' b0 b1 e1 e2 he

/-- An own block grows where it lies; its elder name is gone. -/
theorem SimAt.growIn (h : SimAt C s φ a w) {id : Id} {blk : Blk} (hb : s.heap id = some blk) {off k : Nat} (hv : off + k ≤ blk.cells.length) (htip : blk.excl = true ∨ off + k = blk.cells.length)
    {es : List E} {vs : List Value} (hvs : vs.length = es.length) (h1 : ∀ (j : Nat) (hj : j < es.length), (vs.getD j undef).oneCell' = true)
    (hc : ∀ (j : Nat) (hj : j < es.length), RepE s.cnt φ (Ok C s.heap φ) w (vs.getD j undef) es[j])
    {arr arr' : Array Value} {T : TypeId} {fr : Nat × Nat} (hrow : w.heap[(φ id).1]? = some (.cells arr T fr)) (hfit : (φ id).2 + off + k + es.length ≤ arr.size)
    (hW : Wrote w w' (φ id).1 arr arr' T fr ((φ id).2 + off + k) vs) (d : Nat) :
    SimAt C { s with heap := updI (updI s.heap id none) (d, s.cnt d) (some ⟨blk.excl, (blk.cells.drop off).take k ++ es⟩), cnt := upd s.cnt d (s.cnt d + 1) }
      (updI φ (d, s.cnt d) ((φ id).1, (φ id).2 + off)) a w' := by
  obtain ⟨hbel, hown, arr0, T0, fr0, r1, r2, r3, r4, r5⟩ := h.heap.blk id blk hb
  rw [hrow] at r1
  injection r1 with r1; injection r1 with r1 rT rf; subst r1; subst rT; subst rf
  generalize hnid : (d, s.cnt d) = nid
  have hcntd : nid.2 = s.cnt nid.1 := by rw [← hnid]
  have hcnt : ∀ e, s.cnt e ≤ upd s.cnt d (s.cnt d + 1) e := fun e => by unfold upd; split <;> simp_all
  have hne : ∀ i : Id, i.2 < s.cnt i.1 → i ≠ nid := fun i hlt he => by subst he; rw [hcntd] at hlt; exact Nat.lt_irrefl _ hlt
  have hφ : ∀ i : Id, i.2 < s.cnt i.1 → updI φ nid ((φ id).1, (φ id).2 + off) i = φ i := fun i hlt => by simp [updI, hne i hlt]
  have hφn : updI φ nid ((φ id).1, (φ id).2 + off) nid = ((φ id).1, (φ id).2 + off) := by simp [updI]
  have hidn : id ≠ nid := hne id hbel
  generalize hcells : (blk.cells.drop off).take k ++ es = cells
  have hclen : cells.length = k + es.length := by rw [← hcells]; simp; omega
  generalize hH : updI (updI s.heap id none) nid (some ⟨blk.excl, cells⟩) = H
  have hHn : H nid = some ⟨blk.excl, cells⟩ := by rw [← hH]; simp [updI]
  have hHo : ∀ i q, i ≠ nid → H i = some q → i ≠ id ∧ s.heap i = some q := by
    intro i q hi hq
    rw [← hH] at hq
    simp only [updI, hi, if_false] at hq
    split at hq
    · cases hq
    · rename_i e; exact ⟨e, hq⟩
  have hUid : ∀ i, (blk.excl = true ∨ (φ id).2 + blk.cells.length ≤ i) → U s.heap φ (φ id).1 i := fun i hi => ⟨id, blk, hb, rfl, hi⟩
  have hU : ∀ b i, U H (updI φ nid ((φ id).1, (φ id).2 + off)) b i → U s.heap φ b i := by
    rintro b i ⟨id', blk', g1, g2, g3⟩
    by_cases e : id' = nid
    · subst e
      rw [hHn] at g1; injection g1 with g1; subst g1
      rw [hφn] at g2 g3
      simp only at g2 g3
      subst g2
      refine hUid i ?_
      rcases g3 with g3 | g3
      · exact .inl g3
      · rcases htip with ht | ht
        · exact .inl ht
        · exact .inr (by omega)
    · obtain ⟨_, g1'⟩ := hHo _ _ e g1
      have hlt := (h.heap.blk _ _ g1').below
      rw [hφ _ hlt] at g2 g3
      exact ⟨id', blk', g1', g2, g3⟩
  have hwr : ∀ i, (φ id).2 + off + k ≤ i → ¬ Ok C s.heap φ (φ id).1 i := fun i hi hA => by
    rcases hA with ⟨_, q⟩ | ⟨q, _⟩
    · refine q (hUid i ?_)
      rcases htip with ht | ht
      · exact .inl ht
      · exact .inr (by omega)
    · exact q hown
  have hk : Keeps (Ok C s.heap φ) w (Ok C H (updI φ nid ((φ id).1, (φ id).2 + off))) w' := by
    intro b arr1 T1 fr1 hb1
    have hA : ∀ i, Ok C s.heap φ b i → Ok C H (updI φ nid ((φ id).1, (φ id).2 + off)) b i := fun i hi => by
      rcases hi with ⟨q1, q2⟩ | ⟨q1, q2⟩
      · exact .inl ⟨q1, fun hu => q2 (hU b i hu)⟩
      · exact .inr ⟨q1, q2⟩
    by_cases e : b = (φ id).1
    · subst e
      rw [hrow] at hb1
      injection hb1 with hb1; injection hb1 with q1 q2 q3; subst q1; subst q2; subst q3
      refine ⟨arr', fr, hW.row, hW.size, fun i hi => ⟨hA i hi, ?_⟩⟩
      rw [hW.cell i, if_neg fun q => hwr i q.1 hi]
    · exact ⟨arr1, fr1, by rw [hW.other b e]; exact hb1, rfl, fun i hi => ⟨hA i hi, rfl⟩⟩
  refine h.evolve hcnt hφ hk ⟨?_, ?_⟩ (fun b hb' hl => hW.other b fun e => ?_) (by rw [hW.same]; exact Nat.le_refl _) hW.out
  · intro id' blk' hid
    by_cases e : id' = nid
    · subst e
      rw [hHn] at hid; injection hid with hid; subst hid
      refine ⟨by rw [← hnid]; simp [upd], by rw [hφn]; exact hown, arr', T, fr, by rw [hφn]; exact hW.row, by rw [hφn, hW.size]; simp only; omega, fun i hi => r3 i (by rw [← hW.size]; exact hi), fun j hj => ?_, fun j hj => ?_⟩
      · rw [hφn, hW.cell]
        simp only at hj ⊢
        by_cases q : k ≤ j
        · rw [if_pos (by omega), show (φ id).2 + off + j - ((φ id).2 + off + k) = j - k by omega]; exact h1 _ (by omega)
        · rw [if_neg (by omega), Nat.add_assoc]; exact r4 _ (by omega)
      · rw [hφn, hW.cell]
        simp only at hj ⊢
        by_cases q : k ≤ j
        · rw [if_pos (by omega), show (φ id).2 + off + j - ((φ id).2 + off + k) = j - k by omega]
          have := (hc (j - k) (by omega)).mono hcnt hφ hk
          have e2 : cells[j] = es[j - k] := by
            subst hcells
            rw [List.getElem_append_right (by simp; omega)]
            congr 1; simp; omega
          rw [e2]; exact this
        · rw [if_neg (by omega), Nat.add_assoc]
          have := (r5 (off + j) (by omega)).mono hcnt hφ hk
          have e2 : cells[j] = blk.cells[off + j] := by
            subst hcells
            rw [List.getElem_append_left (by simp; omega)]
            simp
          rw [e2]; exact this
    · obtain ⟨e1, hid'⟩ := hHo _ _ e hid
      have hn : (φ id').1 ≠ (φ id).1 := fun he => e1 (h.heap.inj id' id _ _ hid' hb he)
      exact (h.heap.blk id' blk' hid').mono hcnt hφ hk fun arr1 T1 fr1 hb1 =>
        ⟨arr1, fr1, by rw [hW.other _ hn]; exact hb1, rfl, fun _ _ q => q, fun _ _ => rfl⟩
  · intro id1 id2 b1 b2 g1 g2 he
    by_cases e1 : id1 = nid <;> by_cases e2 : id2 = nid
    · rw [e1, e2]
    · obtain ⟨n2, g2'⟩ := hHo _ _ e2 g2
      rw [e1, hφn, hφ _ (h.heap.blk _ _ g2').below] at he
      exact absurd (h.heap.inj id id2 _ _ hb g2' he) (Ne.symm n2)
    · obtain ⟨n1, g1'⟩ := hHo _ _ e1 g1
      rw [e2, hφn, hφ _ (h.heap.blk _ _ g1').below] at he
      exact absurd (h.heap.inj id1 id _ _ g1' hb he) n1
    · obtain ⟨n1, g1'⟩ := hHo _ _ e1 g1
      obtain ⟨n2, g2'⟩ := hHo _ _ e2 g2
      rw [hφ _ (h.heap.blk _ _ g1').below, hφ _ (h.heap.blk _ _ g2').below] at he
      exact h.heap.inj id1 id2 _ _ g1' g2' he
  · subst e
    rcases hown with h0 | h0
    · omega
    · exact hl h0

end

def tBytes (P : Program) (t : TypeId) : Option Nat := (P.info? t).map (·.bytes)
def tZeroOk (P : Program) (t : TypeId) : Bool :=
  match P.info? t with
  | some i => match i.zero with
    | some z => z.cells.size == i.size
    | none => false
  | none => false
theorem tZeroOk_spec {P : Program} {t : TypeId} {n b : Nat} (h : tZeroOk P t = true) (hn : tSize P t = some n) (hb : tBytes P t = some b) :
    ∃ i z, P.info? t = some i ∧ i.zero = some z ∧ z.cells.size = n ∧ i.size = n ∧ i.bytes = b := by
  unfold tZeroOk at h
  unfold tSize at hn
  unfold tBytes at hb
  cases hi : P.info? t with
  | none => simp [hi] at h
  | some i =>
    simp only [hi, Option.map_some, Option.some.injEq] at hn hb h
    cases hz : i.zero with
    | none => simp [hz] at h
    | some z => simp only [hz, beq_iff_eq] at h; exact ⟨i, z, rfl, hz, by omega, hn, hb⟩

/-- The cells that are appended or copied; n: an element's size. -/
def srcE (P : Program) (t : TypeId) (n : Nat) (h : Heap) : E → Option (List E)
  | .p (.list sz cs) => if sz = n ∧ (tElem P t).isSome then some (cs.map .p) else none
  | .p (.str l) => if n = 1 ∧ tStr P t = true then some (l.map fun b => .p (.int .u8 b.toNat)) else none
  | .nil => if (tElem P t).isSome then some [] else none
  | .sl id sz off len => match h id with
    | some blk => if sz = n ∧ off + len * n ≤ blk.cells.length ∧ (tElem P t).isSome then some ((blk.cells.drop off).take (len * n)) else none
    | none => none
  | _ => none

section
variable {P : Program} {cnt : Nat → Nat} {φ : Id → Nat × Nat} {A : Nat → Nat → Prop} {w : World}

theorem src_run {own : Nat → Prop} {h : Heap} (hh : HRel own A h cnt φ w) {t : TypeId} {n : Nat} (hn : 0 < n) {c : Value} {x : E} {es : List E} (hx : RepE cnt φ A w c x) (he : srcE P t n h x = some es) :
    ∃ m, (∀ w0 : World, (Builtin.lenOf c).run P w0 = .ok m w0) ∧ es.length = m * n ∧ ((∃ e', P.underlying t = some (.slice e')) ∨ P.underlying t = some .string) ∧
      ∀ m', m' ≤ m → ∃ vs : List Value, (∀ w0 : World, w0.heap = w.heap → (Builtin.firstCells n m' c).run P w0 = .ok vs.toArray w0) ∧ vs.length = m' * n ∧
        (∀ (j : Nat) (hj : j < m' * n) (hj' : j < es.length), (vs.getD j undef).oneCell' = true ∧ RepE cnt φ A w (vs.getD j undef) es[j]) := by
  have ty : (tElem P t).isSome = true → (∃ e', P.underlying t = some (.slice e')) ∨ P.underlying t = some .string := by
    intro h
    obtain ⟨e, he⟩ := isSome_spec h
    exact .inl ⟨e, tElem_spec he⟩
  have row : ∀ {b off len : Nat} {arr : Array Value} {T : TypeId} {fr : Nat × Nat} {cap : Nat}, w.heap[b]? = some (.cells arr T fr) → off + len * n ≤ arr.size → es.length = len * n →
      (∀ (j : Nat) (hj : j < es.length), (at_ arr (off + j)).oneCell' = true) → (∀ (j : Nat) (hj : j < es.length), RepE cnt φ A w (at_ arr (off + j)) es[j]) →
      ∃ m, (∀ w0 : World, (Builtin.lenOf (.slice (some ⟨b, off, none⟩) len cap)).run P w0 = .ok m w0) ∧ es.length = m * n ∧
      ∀ m', m' ≤ m → ∃ vs : List Value, (∀ w0 : World, w0.heap = w.heap → (Builtin.firstCells n m' (.slice (some ⟨b, off, none⟩) len cap)).run P w0 = .ok vs.toArray w0) ∧ vs.length = m' * n ∧
        (∀ (j : Nat) (hj : j < m' * n) (hj' : j < es.length), (vs.getD j undef).oneCell' = true ∧ RepE cnt φ A w (vs.getD j undef) es[j]) := by
    intro b off len arr T fr cap hb hfit hlen ho hr
    refine ⟨len, by simp [Builtin.lenOf], hlen, fun m' hm' => ?_⟩
    have hle : m' * n ≤ len * n := Nat.mul_le_mul_right _ hm'
    refine ⟨(List.range (m' * n)).map fun j => at_ arr (off + j), fun w0 hw0 => by simp [Builtin.firstCells, run_loadCells_at (w := w0) (by rw [hw0]; exact hb) (n := m' * n) (off := off) (by omega)], by simp, fun j hj hj' => ?_⟩
    have : ((List.range (m' * n)).map fun j => at_ arr (off + j)).getD j undef = at_ arr (off + j) := by simp [List.getD, hj]
    rw [this]
    exact ⟨ho j hj', hr j hj'⟩
  unfold srcE at he
  split at he
  · rename_i sz cs
    split at he
    · rename_i hc
      obtain ⟨rfl, ht⟩ := hc
      injection he with he; subst he
      have t1 := ty ht
      cases hx with
      | p hx =>
      cases hx with
      | empty ad cap =>
        refine ⟨0, by simp [Builtin.lenOf], by simp, t1, fun m' hm' => ?_⟩
        have : m' = 0 := by omega
        subst this
        refine ⟨[], fun w0 hw0 => ?_, by simp, fun j hj hj' => by simp at hj'⟩
        cases ad <;> simp [Builtin.firstCells, loadCells, loadCellsFrom]
      | list g1 g2 g3 g4 g5 gA g6 g7 =>
        rename_i b off len cap arr T fr
        obtain ⟨m, r1, r2, r3⟩ := row (cap := cap) (len := len) g1 (by omega) (by simpa using g3) (fun j hj => g6 j (by simpa using hj)) (fun j hj => by simpa using RepE.p (g7 j (by simpa using hj)))
        exact ⟨m, r1, r2, t1, r3⟩
    · cases he
  · rename_i l
    split at he
    · rename_i hc
      obtain ⟨rfl, ht⟩ := hc
      injection he with he; subst he
      have hu := tStr_spec ht
      cases hx with
      | p hx =>
      cases hx
      refine ⟨l.length, by simp [Builtin.lenOf, string_size], by simp, .inr hu, fun m' hm' => ⟨(l.take m').map fun b => .int .u8 b.toNat, fun w0 hw0 => ?_, by simp; omega, fun j hj hj' => ?_⟩⟩
      · simp only [Builtin.firstCells, Sem.run_pure]
        congr 1
        apply Array.ext'
        simp [ByteArray.data_extract]
      · simp only [List.length_map] at hj'
        have e : ((l.take m').map fun b => Value.int .u8 b.toNat).getD j undef = .int .u8 l[j].toNat := by
          have : j < m' := by omega
          simp [List.getD, List.getElem?_take, this, hj']
        rw [e]
        exact ⟨rfl, by simpa using RepE.p (.int _ _)⟩
    · cases he
  · split at he
    · rename_i ht
      injection he with he; subst he
      have t1 := ty ht
      cases hx
      refine ⟨0, by simp [Builtin.lenOf], by simp, t1, fun m' hm' => ?_⟩
      have : m' = 0 := by omega
      subst this
      exact ⟨[], fun w0 hw0 => by simp [Builtin.firstCells], by simp, fun j hj hj' => by simp at hj'⟩
    · cases he
  · rename_i id sz off len
    split at he
    · rename_i blk hb
      split at he
      · rename_i hc
        obtain ⟨rfl, hle, ht⟩ := hc
        injection he with he; subst he
        have t1 := ty ht
        cases hx with
        | sl _ _ cap g1 g2 g3 g4 g5 g6 =>
        rename_i b base arr T fr
        obtain ⟨_, _, arr0, T0, fr0, r1, r2, r3, r4, r5⟩ := hh.blk id blk hb
        rw [g2] at r1 r2 r4 r5
        simp only at r1 r2 r4 r5
        obtain ⟨m, q1, q2, q3⟩ := row (off := base + off) (len := len) (cap := cap) r1 (by omega) (by simp; omega)
          (fun j hj => by simp at hj; rw [Nat.add_assoc]; exact r4 _ (by omega))
          (fun j hj => by simp at hj; rw [Nat.add_assoc]; simpa using r5 (off + j) (by omega))
        exact ⟨m, q1, q2, t1, q3⟩
      · cases he
    · cases he
  · cases he

theorem growBy_le {L : Nat} (hL : 256 < L) : ∀ (r c : Nat), c ≤ 2 * L → Builtin.growBy L r c ≤ 2 * L
  | 0, c, h => h
  | r + 1, c, h => by
    unfold Builtin.growBy
    split
    · exact h
    · exact growBy_le hL r _ (by omega)

theorem nextslicecap_le {need cap : Nat} (h : cap < need) : Builtin.nextslicecap need cap ≤ 2 * need := by
  unfold Builtin.nextslicecap
  split
  · omega
  · split
    · omega
    · exact growBy_le (by omega) 4 cap (by omega)

end
end Go.Vm
