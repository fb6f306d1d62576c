/- The machine gives what the quiet operations give over slot values. No condition. -/
import Derived.Test.YtfjmcdacnhfacaaGreatDoorVmC
import Derived.Sort.Walk0
set_option linter.all false
namespace Go.Vm
open Go

theorem add_plain (b o n : Nat) : (⟨b, o, none⟩ : Addr).add n = ⟨b, o + n, none⟩ := by
  unfold Addr.add; split <;> simp_all

theorem cell_of {w : World} {b : Nat} {arr : Array Value} {T : TypeId} {fr : Nat × Nat} (hb : w.heap[b]? = some (.cells arr T fr)) {i : Nat} (hi : i < arr.size) :
    w.cell? ⟨b, i, none⟩ = some (at_ arr i) := by
  simp [World.cell?, hb, at_, hi]

theorem run_loadCells_at {P : Program} {w : World} {b off n : Nat} {arr : Array Value} {T : TypeId} {fr : Nat × Nat} (hb : w.heap[b]? = some (.cells arr T fr)) (hn : off + n ≤ arr.size) :
    (loadCells ⟨b, off, none⟩ n).run P w = .ok ((List.range n).map fun j => at_ arr (off + j)).toArray w :=
  run_loadCells w _ n (fun j => at_ arr (off + j)) fun j hj => by rw [add_plain]; exact cell_of hb (by omega)

theorem at_range (n : Nat) (f : Nat → Value) (j : Nat) (hj : j < n) : at_ ((List.range n).map f).toArray j = f j := by
  simp [at_, hj]

section
variable {P : Program} {cnt : Nat → Nat} {φ : Id → Nat × Nat} {A : Nat → Nat → Prop} {w : World}

def Gives (P : Program) (cnt : Nat → Nat) (φ : Id → Nat × Nat) (A : Nat → Nat → Prop) (w : World) (m : Sem Value) (e : E) : Prop :=
  ∃ v, m.run P w = .ok v w ∧ RepE cnt φ A w v e

theorem underlying_run {t : TypeId} {d : TypeDesc} (h : P.underlying t = some d) : (underlying t).run P w = .ok d w := by
  simp [underlying, h]

theorem sizeOf_run {t : TypeId} {n : Nat} (h : tSize P t = some n) : (sizeOf t).run P w = .ok n w := by
  unfold tSize at h
  cases hi : P.info? t with
  | none => simp [hi] at h
  | some i => simp [hi] at h; simp [sizeOf, typeInfo, hi, h]

theorem isAgg_run {t : TypeId} {b : Bool} (h : tAgg P t = some b) : (isAgg t).run P w = .ok b w := by
  unfold tAgg at h
  cases hd : P.underlying t with
  | none => simp [hd] at h
  | some d => cases d <;> simp [hd] at h <;> simp [isAgg, underlying, hd, h]

theorem rep_getElem {c : Value} {e e' : E} (h : RepE cnt φ A w c e) (he : e = e') : RepE cnt φ A w c e' := he ▸ h

theorem loadE_gives {own : Nat → Prop} {h : Heap} (hh : HRel own A h cnt φ w) {t : TypeId} {c : Value} {x e : E} (hx : RepE cnt φ A w c x) (he : loadE P t h x = some e) :
    Gives P cnt φ A w (Instr.loadAt t c) e := by
  unfold loadE at he
  split at he
  · -- a block of one's own
    rename_i id off
    cases hx with
    | ptr _ h1 h2 =>
    rename_i b base
    split at he
    · rename_i n blk ht hs hb
      split at he
      · rename_i hle
        injection he with he; subst he
        obtain ⟨_, _, arr, T, fr, g1, g2, _, g4, g5⟩ := hh.blk _ _ hb
        rw [h2] at g1 g2 g4 g5
        simp only at g1 g2 g4 g5
        refine ⟨.agg ((List.range n).map fun j => at_ arr (base + off + j)).toArray, ?_, ?_⟩
        · simp [Instr.loadAt, Instr.sureAddr, loadVar, isAgg_run ht, sizeOf_run hs, run_loadCells_at (off := base + off) (n := n) g1 (by omega)]
        · refine RepE.mkAgg (by simp; omega) (fun j hj => ?_) (fun j hj => ?_)
          all_goals
            simp only [List.length_take, List.length_drop] at hj
            rw [at_range _ _ _ (by omega), Nat.add_assoc]
          · exact g4 (off + j) (by omega)
          · exact rep_getElem (g5 (off + j) (by omega)) (by simp)
      · cases he
    · rename_i n blk ht hs hb
      obtain ⟨hlt, rfl⟩ := List.getElem?_eq_some_iff.1 he
      obtain ⟨_, _, arr, T, fr, g1, g2, _, g4, g5⟩ := hh.blk _ _ hb
      rw [h2] at g1 g2 g4 g5
      simp only at g1 g2 g4 g5
      refine ⟨at_ arr (base + off), ?_, g5 off hlt⟩
      simp [Instr.loadAt, Instr.sureAddr, loadVar, isAgg_run ht, cell_of g1 (i := base + off) (by omega)]
    · cases he
  · rename_i cs
    cases hx with
    | pp g1 g2 gA g4 g5 =>
    rename_i b off arr T fr
    split at he
    · rename_i n ht hs
      split at he
      · rename_i hle
        injection he with he; subst he
        refine ⟨.agg ((List.range n).map fun j => at_ arr (off + j)).toArray, ?_, ?_⟩
        · simp [Instr.loadAt, Instr.sureAddr, loadVar, isAgg_run ht, sizeOf_run hs, run_loadCells_at (off := off) (n := n) g1 (by omega)]
        · refine .p (.agg (by simp; omega) (fun j hj => ?_) (fun j hj => ?_))
          all_goals
            simp only [List.length_take] at hj
            rw [at_range _ _ _ (by omega)]
          · exact g4 j (by omega)
          · have := g5 j (by omega)
            simpa using this
      · cases he
    · rename_i ht hs
      cases hcs : cs[0]? with
      | none => simp [hcs] at he
      | some y =>
        simp [hcs] at he; subst he
        obtain ⟨hlt, rfl⟩ := List.getElem?_eq_some_iff.1 hcs
        refine ⟨at_ arr off, ?_, .p (g5 0 hlt)⟩
        simp [Instr.loadAt, Instr.sureAddr, loadVar, isAgg_run ht, cell_of g1 (i := off) (by omega)]
    · cases he
  · cases he

theorem fieldPlace_run {a b o : Nat} {f : Field} {n : Nat} (h : tSize P f.type = some (n + 1)) : (fieldPlace ⟨b, o, none⟩ f).run P w = .ok ⟨b, o + f.offset, none⟩ w := by
  simp [fieldPlace, sizeOf_run h, add_plain]

theorem tField_spec {t : TypeId} {k o n : Nat} (h : tField P t k = some (o, n)) :
    ∃ fs f m, P.underlying t = some (.struct fs) ∧ fs[k]? = some f ∧ tSize P f.type = some (m + 1) ∧ f.offset = o := by
  unfold tField at h
  split at h
  · rename_i fs hfs
    split at h
    · rename_i f hf
      split at h
      · rename_i m hm
        simp at h
        exact ⟨fs, f, m, hfs, hf, hm, h.1⟩
      · cases h
    · cases h
  · cases h

theorem fieldAddrE_gives {t : TypeId} {k : Nat} {c : Value} {x e : E} (hx : RepE cnt φ A w c x) (he : fieldAddrE P t k x = some e) :
    Gives P cnt φ A w (Instr.fieldAt t c k) e := by
  unfold fieldAddrE at he
  split at he
  · rename_i id off
    split at he
    · rename_i o n hf
      injection he with he; subst he
      obtain ⟨fs, f, m, h1, h2, h3, rfl⟩ := tField_spec hf
      cases hx with
      | ptr _ g1 g2 =>
      rename_i b base
      refine ⟨_, ?_, .ptr (off + f.offset) g1 g2⟩
      simp [Instr.fieldAt, underlying_run h1, h2, Instr.sureAddr, fieldPlace_run h3 (a := 0), Nat.add_assoc]
    · cases he
  · rename_i cs
    split at he
    · rename_i o n hf
      split at he
      · rename_i hle
        injection he with he; subst he
        obtain ⟨fs, f, m, h1, h2, h3, rfl⟩ := tField_spec hf
        cases hx with
        | pp g1 g2 gA g4 g5 =>
        rename_i b off arr T fr
        refine ⟨.pointer (some ⟨b, off + f.offset, none⟩), ?_, .pp g1 (by simp; omega) (fun j hj => ?_) (fun j hj => ?_) (fun j hj => ?_)⟩
        · simp [Instr.fieldAt, underlying_run h1, h2, Instr.sureAddr, fieldPlace_run h3 (a := 0)]
        all_goals
          simp only [List.length_drop] at hj
          rw [Nat.add_assoc]
        · exact gA _ (by omega)
        · exact g4 _ (by omega)
        · simpa using g5 (f.offset + j) (by omega)
      · cases he
    · cases he
  · cases he

theorem extract_at (cs : Array Value) (o n j : Nat) (h : o + n ≤ cs.size) (hj : j < n) : at_ (cs.extract o (o + n)) j = at_ cs (o + j) := by
  simp only [at_, Array.getD_eq_getD_getElem?, Array.getElem?_extract]
  rw [if_pos (by omega)]

theorem fieldE_gives {t : TypeId} {k : Nat} {c : Value} {x e : E} (hx : RepE cnt φ A w c x) (he : fieldE P t k x = some e) :
    Gives P cnt φ A w (Instr.field t c k) e := by
  unfold fieldE at he
  split at he
  · rename_i cs
    cases hx with
    | p hx =>
    cases hx with
    | agg hs ho hc =>
    rename_i arr
    split at he
    · rename_i fs hfs
      split at he
      · rename_i f hf
        split at he
        · rename_i n ht hn
          split at he
          · rename_i hle
            injection he with he; subst he
            refine ⟨.agg (arr.extract f.offset (f.offset + n)), ?_, .p (.agg (by simp; omega) (fun j hj => ?_) (fun j hj => ?_))⟩
            · unfold Instr.field; simp only [Sem.run_bind, underlying_run hfs, Result.andThen_ok, hf, asAgg, Sem.run_pure, part, isAgg_run ht, if_true, sizeOf_run hn]
            all_goals
              simp only [List.length_take, List.length_drop] at hj
              rw [extract_at _ _ _ _ (by omega) (by omega)]
            · exact ho _ (by omega)
            · simpa using hc (f.offset + j) (by omega)
          · cases he
        · rename_i n ht hn
          cases hq : cs[f.offset]? with
          | none => simp [hq] at he
          | some y =>
            simp [hq] at he; subst he
            obtain ⟨hlt, rfl⟩ := List.getElem?_eq_some_iff.1 hq
            refine ⟨at_ arr f.offset, ?_, .p (hc _ hlt)⟩
            have : arr[f.offset]? = some (at_ arr f.offset) := by simp [at_, show f.offset < arr.size by omega]
            unfold Instr.field; simp only [Sem.run_bind, underlying_run hfs, Result.andThen_ok, hf, asAgg, Sem.run_pure, part, isAgg_run ht, Bool.false_eq_true, if_false, this]
        · cases he
      · cases he
    · cases he
  · cases he

theorem elem_spec {t : TypeId} {n : Nat} (h : (tElem P t).bind (tSize P) = some n) : ∃ e, P.underlying t = some (.slice e) ∧ tSize P e = some n := by
  unfold tElem at h
  split at h
  · rename_i e he; exact ⟨e, he, by simpa using h⟩
  · simp at h

theorem indexAddrE_gives {t : TypeId} {c ci : Value} {x i e : E} (hx : RepE cnt φ A w c x) (hi : RepE cnt φ A w ci i) (he : indexAddrE P t x i = some e) :
    Gives P cnt φ A w (Instr.indexAt t c ci) e := by
  unfold indexAddrE at he
  split at he
  · rename_i id sz off len k i
    split at he
    · rename_i n hn
      split at he
      · rename_i hc
        obtain ⟨rfl, h0, h1⟩ := hc
        injection he with he; subst he
        obtain ⟨el, e1, e2⟩ := elem_spec hn
        cases hi with
        | p hi =>
        cases hi
        cases hx with
        | sl _ _ cap g1 g2 g3 g4 g5 g6 =>
        rename_i b base arr T fr
        refine ⟨_, ?_, .ptr (off + i.toNat * n) g1 g2⟩
        simp [Instr.indexAt, asIntOf, underlying_run e1, h0, h1, sizeOf_run e2, add_plain, Nat.add_assoc]
      · cases he
    · cases he
  · rename_i sz cs k i
    split at he
    · rename_i n hn
      split at he
      · rename_i hc
        obtain ⟨rfl, hz, h0, h1⟩ := hc
        injection he with he; subst he
        obtain ⟨el, e1, e2⟩ := elem_spec hn
        cases hi with
        | p hi =>
        cases hi
        cases hx with
        | p hx =>
        cases hx with
        | empty => simp at h1; omega
        | list g1 g2 g3 g4 g5 gA g6 g7 =>
        rename_i b off len cap arr T fr
        have hlt : i.toNat < len := by
          have h1' : (i.toNat + 1) * n ≤ len * n := by rw [Nat.succ_mul]; omega
          have := Nat.le_of_mul_le_mul_right h1' g2
          omega
        refine ⟨.pointer (some ⟨b, off + i.toNat * n, none⟩), ?_, .pp g1 (by simp; omega) (fun j hj => ?_) (fun j hj => ?_) (fun j hj => ?_)⟩
        · have : i < (len : Int) := by omega
          simp [Instr.indexAt, asIntOf, underlying_run e1, h0, this, sizeOf_run e2, add_plain]
        all_goals
          simp only [List.length_drop] at hj
          rw [Nat.add_assoc]
        · exact gA _ (by omega)
        · exact g6 _ (by omega)
        · simpa using g7 (i.toNat * n + j) (by omega)
      · cases he
    · cases he
  · cases he

theorem string_size (l : List UInt8) : (⟨l.toArray⟩ : ByteArray).size = l.length := by simp [ByteArray.size]

theorem indexE_gives {t : TypeId} {c ci : Value} {x i e : E} (hx : RepE cnt φ A w c x) (hi : RepE cnt φ A w ci i) (he : indexE P t x i = some e) :
    Gives P cnt φ A w (Instr.index t c ci) e := by
  unfold indexE at he
  split at he
  · rename_i l k i
    split at he
    · rename_i ht
      have hu := tStr_spec ht
      split at he
      · rename_i h0
        cases hq : l[i.toNat]? with
        | none => simp [hq] at he
        | some y =>
          simp [hq] at he; subst he
          obtain ⟨hlt, rfl⟩ := List.getElem?_eq_some_iff.1 hq
          cases hi with
          | p hi =>
          cases hi
          cases hx with
          | p hx =>
          cases hx
          refine ⟨_, ?_, .p (.int .u8 _)⟩
          have hsz : i.toNat < (⟨l.toArray⟩ : ByteArray).size := by rw [string_size]; exact hlt
          have : (⟨l.toArray⟩ : ByteArray)[i.toNat]? = some l[i.toNat] := by
            rw [getElem?_pos (⟨l.toArray⟩ : ByteArray) i.toNat hsz]; simp [ByteArray.getElem_eq_getElem_data]
          unfold Instr.index
          simp [asIntOf, underlying_run hu, h0, this]
      · cases he
    · cases he
  · cases he

theorem isSome_spec {α : Type} {o : Option α} (h : o.isSome = true) : ∃ x, o = some x := by cases o <;> simp at h ⊢

theorem lenE_gives {t : TypeId} {c : Value} {x e : E} (hx : RepE cnt φ A w c x) (he : lenE P t x = some e) (ty : TypeId) :
    Gives P cnt φ A w (Builtin.len_ #[t] ty #[c]) e := by
  unfold lenE at he
  split at he
  all_goals first
    | (cases he; done)
    | skip
  all_goals
    split at he
    all_goals first
      | (cases he; done)
      | skip
    rename_i ht
    injection he with he
    subst he
  · have hu := tStr_spec ht
    cases hx with
    | p hx =>
    cases hx
    exact ⟨_, by simp [Builtin.len_, underlying_run hu, goInt, string_size], .p (.int _ _)⟩
  · obtain ⟨el, hel⟩ := isSome_spec ht
    have hu := tElem_spec hel
    cases hx with
    | p hx =>
    cases hx with
    | empty a cap => exact ⟨_, by simp [Builtin.len_, underlying_run hu, goInt], rep_getElem (.p (.int .i64 0)) (by simp)⟩
    | list g1 g2 g3 g4 g5 gA g6 g7 =>
    rename_i b off len cap arr T fr
    refine ⟨_, by simp [Builtin.len_, underlying_run hu, goInt], rep_getElem (.p (.int .i64 len)) ?_⟩
    rw [g3, Nat.mul_div_cancel _ g2]
  · obtain ⟨el, hel⟩ := isSome_spec ht
    have hu := tElem_spec hel
    cases hx with
    | sl _ _ cap g1 g2 g3 g4 g5 g6 =>
    exact ⟨_, by simp [Builtin.len_, underlying_run hu, goInt], .p (.int _ _)⟩
  · obtain ⟨el, hel⟩ := isSome_spec ht
    have hu := tElem_spec hel
    cases hx
    exact ⟨_, by simp [Builtin.len_, underlying_run hu, goInt], .p (.int _ _)⟩

end
end Go.Vm
