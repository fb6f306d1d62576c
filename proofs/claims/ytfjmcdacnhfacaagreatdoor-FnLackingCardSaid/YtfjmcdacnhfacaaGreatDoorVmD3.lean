/- The machine gives what the quiet operations give over slot values: the rest, and all of evalS. No condition. -/
import Derived.Test.YtfjmcdacnhfacaaGreatDoorVmD2
set_option linter.all false
namespace Go.Vm
open Go

section
variable {P : Program} {cnt : Nat → Nat} {φ : Id → Nat × Nat} {A : Nat → Nat → Prop} {w : World}

theorem unE_gives {op : UnOp} {c : Value} {x e : E} (hx : RepE cnt φ A w c x) (he : unE op x = some e) : Gives P cnt φ A w (Op.unary op c) e := by
  unfold unE at he
  split at he
  · cases hx with
    | p hx =>
    cases hx
    split at he
    · injection he with he; subst he; exact ⟨_, by simp [Op.unary, Op.intArith], .p (.int _ _)⟩
    · injection he with he; subst he; exact ⟨.int _ _, by simp [Op.unary, Op.intBits], .p (.int _ _)⟩
    · cases he
  · cases hx with
    | p hx =>
    cases hx
    split at he
    · injection he with he; subst he; exact ⟨_, by simp [Op.unary], .p (.bool _)⟩
    · cases he
  · cases he

theorem convE_gives {src dst : TypeId} {c : Value} {x e : E} (hx : RepE cnt φ A w c x) (he : convE P src dst x = some e) : Gives P cnt φ A w (convert src dst c) e := by
  unfold convE at he
  split at he
  · split at he
    · rename_i k' h1 h2
      injection he with he; subst he
      cases hx with
      | p hx =>
      cases hx
      exact ⟨_, by simp [convert, underlying_run (tInt_spec h1), underlying_run (tInt_spec h2), Conv.intToInt], .p (.int _ _)⟩
    · cases he
  · split at he
    · rename_i h
      injection he with he; subst he
      cases hx with
      | p hx =>
      cases hx
      exact ⟨_, by simp [convert, underlying_run (tStr_spec h.1), underlying_run (tStr_spec h.2)], .p (.str _)⟩
    · cases he
  · cases he

theorem boundE_spec {d : Nat} {o : Option E} {i : Int} {oc : Option Value} (h : boundE d o = some i)
    (hr : ∀ e, o = some e → ∃ c, oc = some c ∧ RepE cnt φ A w c e) (hn : o = none → oc = none) :
    (oc = none ∧ i = d) ∨ ∃ k, oc = some (.int k i) := by
  unfold boundE at h
  split at h
  · injection h with h; exact .inl ⟨hn rfl, h.symm⟩
  · injection h with h; subst h
    obtain ⟨c, rfl, hc⟩ := hr _ rfl
    cases hc with
    | p hc => cases hc; exact .inr ⟨_, rfl⟩
  · cases h

theorem sliceBounds_run {isSlice : Bool} {len cap : Nat} {lo hi : Option Value} {l h : Int} (hlc : len ≤ cap) (h0 : 0 ≤ l) (h1 : l ≤ h) (h2 : h ≤ len)
    (hl : (lo = none ∧ l = ((0 : Nat) : Int)) ∨ ∃ k, lo = some (.int k l)) (hh : (hi = none ∧ h = (len : Int)) ∨ ∃ k, hi = some (.int k h)) :
    (Instr.sliceBounds isSlice len cap lo hi none).run P w = .ok (l.toNat, h.toNat, cap) w := by
  have hn : (h.toNat : Int) = h := by omega
  have a1 : ∀ k code, (Instr.sliceBound (.int k h) cap code).run P w = .ok h.toNat w := by
    intro k code; simp [Instr.sliceBound, asIntOf, show 0 ≤ h by omega, show h ≤ (cap : Int) by omega]
  have a2 : ∀ k code, (Instr.sliceBound (.int k l) h.toNat code).run P w = .ok l.toNat w := by
    intro k code; simp [Instr.sliceBound, asIntOf, h0, hn, h1]
  rcases hl with ⟨rfl, rfl⟩ | ⟨k, rfl⟩ <;> rcases hh with ⟨rfl, rfl⟩ | ⟨k', rfl⟩ <;> simp [Instr.sliceBounds, a1, a2] <;> (first | (have := a2; simp at this; simp [this]) | skip)

theorem sliceE_gives {own : Nat → Prop} {t : TypeId} {c : Value} {x e : E} {lo hi mx : Option E} {clo chi cmx : Option Value} (hx : RepE cnt φ A w c x)
    (hlo : ∀ e, lo = some e → ∃ c, clo = some c ∧ RepE cnt φ A w c e) (hlo' : lo = none → clo = none)
    (hhi : ∀ e, hi = some e → ∃ c, chi = some c ∧ RepE cnt φ A w c e) (hhi' : hi = none → chi = none) (hmx' : mx = none → cmx = none)
    (he : sliceE P t x lo hi mx = some e) : Gives P cnt φ A w (Instr.sliceAt t c clo chi cmx) e := by
  unfold sliceE at he
  split at he
  · cases he
  · rename_i s
    have hm := hmx' rfl; subst hm
    split at he
    · rename_i ht
      have hu := tStr_spec ht
      split at he
      · rename_i l h hl hh
        split at he
        · rename_i hc
          injection he with he; subst he
          cases hx with
          | p hx =>
          cases hx
          have bl := boundE_spec hl hlo hlo'
          have bh := boundE_spec hh hhi hhi'
          have hr := sliceBounds_run (P := P) (w := w) (isSlice := false) (Nat.le_refl s.length) hc.1 hc.2.1 hc.2.2 bl bh
          refine ⟨.string ⟨((s.take h.toNat).drop l.toNat).toArray⟩, ?_, .p (.str _)⟩
          have hx2 : (⟨s.toArray⟩ : ByteArray).extract l.toNat h.toNat = ⟨((s.take h.toNat).drop l.toNat).toArray⟩ := by
            apply ByteArray.ext
            simp [ByteArray.data_extract, List.drop_take]
          simp only [Instr.sliceAt, Instr.slice, Sem.run_bind, underlying_run hu, Result.andThen_ok, Option.isSome_none, Bool.false_eq_true, if_false, string_size, hr, hx2, Sem.run_pure]
        · cases he
      · cases he
    · cases he
  · rename_i sz cs
    have hm := hmx' rfl; subst hm
    split at he
    · rename_i n hn
      obtain ⟨el, e1, e2⟩ := elem_spec hn
      split at he
      · rename_i l h hl hh
        split at he
        · rename_i hc
          obtain ⟨rfl, hc⟩ := hc
          injection he with he; subst he
          cases hx with
          | p hx =>
          have bl := boundE_spec hl hlo hlo'
          have bh := boundE_spec hh hhi hhi'
          cases hx with
          | empty a cap =>
            simp only [List.length_nil, Nat.zero_div, Int.ofNat_zero] at hc bh
            have hr := sliceBounds_run (P := P) (w := w) (isSlice := true) (Nat.zero_le cap) hc.1 hc.2.1 (by simpa using hc.2.2) bl (by simpa using bh)
            have hl0 : l = 0 := by omega
            have hh0 : h = 0 := by omega
            subst hl0; subst hh0
            simp only [Int.toNat_zero] at hr
            refine ⟨_, by simp only [Instr.sliceAt, Instr.slice, Sem.run_bind, underlying_run e1, Result.andThen_ok, hr, sizeOf_run e2, Sem.run_pure]; rfl, ?_⟩
            simpa using RepE.p (RepP.empty _ _ _)
          | list g1 g2 g3 g4 g5 gA g6 g7 =>
          rename_i b off len cap arr T fr
          have hlen : cs.length / n = len := by rw [g3, Nat.mul_div_cancel _ g2]
          rw [hlen] at hc bh
          have hr := sliceBounds_run (P := P) (w := w) (isSlice := true) g4 hc.1 hc.2.1 hc.2.2 bl bh
          by_cases hlh : l = h
          · subst hlh
            refine ⟨_, by simp only [Instr.sliceAt, Instr.slice, Sem.run_bind, underlying_run e1, Result.andThen_ok, hr, sizeOf_run e2, Sem.run_pure]; rfl, ?_⟩
            rw [Nat.sub_self]
            have : (cs.take (l.toNat * n)).drop (l.toNat * n) = [] := by apply List.drop_eq_nil_of_le; simp; omega
            rw [this]
            exact .p (.empty _ _ _)
          · have hcap : cap ≠ l.toNat := by omega
            refine ⟨_, by simp only [Instr.sliceAt, Instr.slice, Sem.run_bind, underlying_run e1, Result.andThen_ok, hr, sizeOf_run e2, if_neg hcap, Option.map_some, add_plain, Sem.run_pure]; rfl, ?_⟩
            have hle : h.toNat * n ≤ cs.length := by rw [g3]; exact Nat.mul_le_mul_right _ (by omega)
            have hll : l.toNat * n ≤ h.toNat * n := Nat.mul_le_mul_right _ (by omega)
            have hsub : h.toNat * n - l.toNat * n = (h.toNat - l.toNat) * n := by rw [Nat.sub_mul]
            refine .p (.list g1 g2 (by simp; omega) (by omega) (by simp; omega) (fun j hj => ?_) (fun j hj => ?_) (fun j hj => ?_))
            all_goals
              simp only [List.length_drop, List.length_take] at hj
              rw [Nat.add_assoc]
            · exact gA _ (by omega)
            · exact g6 _ (by omega)
            · simpa using g7 (l.toNat * n + j) (by omega)
        · cases he
      · cases he
    · cases he
  · rename_i id sz off len
    have hm := hmx' rfl; subst hm
    split at he
    · rename_i n hn
      obtain ⟨el, e1, e2⟩ := elem_spec hn
      split at he
      · rename_i l h hl hh
        split at he
        · rename_i hc
          obtain ⟨rfl, hc⟩ := hc
          have bl := boundE_spec hl hlo hlo'
          have bh := boundE_spec hh hhi hhi'
          cases hx with
          | sl _ _ cap g1 g2 g3 g4 g5 g6 =>
          rename_i b base arr T fr
          have hr := sliceBounds_run (P := P) (w := w) (isSlice := true) g4 hc.1 hc.2.1 hc.2.2 bl bh
          by_cases hlh : l = h
          · subst hlh
            rw [if_pos rfl] at he; injection he with he; subst he
            refine ⟨_, by simp only [Instr.sliceAt, Instr.slice, Sem.run_bind, underlying_run e1, Result.andThen_ok, hr, sizeOf_run e2, Sem.run_pure]; rfl, ?_⟩
            rw [Nat.sub_self]
            exact .p (.empty _ _ _)
          · rw [if_neg hlh] at he; injection he with he; subst he
            have hcap : cap ≠ l.toNat := by omega
            refine ⟨_, by simp only [Instr.sliceAt, Instr.slice, Sem.run_bind, underlying_run e1, Result.andThen_ok, hr, sizeOf_run e2, if_neg hcap, Option.map_some, add_plain, Sem.run_pure]; rfl, ?_⟩
            rw [show base + off + l.toNat * n = base + (off + l.toNat * n) by omega]
            refine .sl _ _ _ g1 g2 g3 (by omega) g5 ?_
            have : (cap - l.toNat) * n + l.toNat * n = cap * n := by rw [← Nat.add_mul]; congr 1; omega
            omega
        · cases he
      · cases he
    · cases he
  · have hm := hmx' rfl; subst hm
    split at he
    · rename_i n hn
      obtain ⟨el, e1, e2⟩ := elem_spec hn
      split at he
      · rename_i l h hl hh
        split at he
        · rename_i hc
          obtain ⟨rfl, rfl⟩ := hc
          injection he with he; subst he
          have bl := boundE_spec hl hlo hlo'
          have bh := boundE_spec hh hhi hhi'
          cases hx
          have hr := sliceBounds_run (P := P) (w := w) (isSlice := true) (len := 0) (cap := 0) (Nat.le_refl 0) (by omega) (by omega) (by omega) bl bh
          exact ⟨_, by simp only [Instr.sliceAt, Instr.slice, Sem.run_bind, underlying_run e1, Result.andThen_ok, hr, sizeOf_run e2, Sem.run_pure]; rfl, .p (.empty _ _ _)⟩
        · cases he
      · cases he
    · cases he
  · cases he

theorem pickE_true (a b : E) : pickE true a b = a := by
  unfold pickE; split
  · rfl
  · rfl
theorem pickE_false (a b : E) : pickE false a b = b := by
  unfold pickE; split
  · rfl
  · rfl
theorem pickE_rep {t : Bool} {ca cb : Value} {a b : E} (ha : RepE cnt φ A w ca a) (hb : RepE cnt φ A w cb b) : RepE cnt φ A w (if t then ca else cb) (pickE t a b) := by
  cases t
  · rw [pickE_false]; exact hb
  · rw [pickE_true]; exact ha

theorem max2_run {k : IntKind} {a b : Int} : (Builtin.max2 (.int k a) (.int k b)).run P w = .ok (.int k (if b > a then b else a)) w := by simp [Builtin.max2]
theorem min2_run {k : IntKind} {a b : Int} : (Builtin.min2 (.int k a) (.int k b)).run P w = .ok (.int k (if b < a then b else a)) w := by simp [Builtin.min2]

theorem rep_map {ρ : Operand → Value} {val : Operand → E} {n : Nat} (hv : ∀ x, inSlots n x = true → RepE cnt φ A w (ρ x) (val x)) (xs : Array Operand) (h : ∀ x ∈ xs, inSlots n x = true) :
    (xs.map ρ).size = (xs.toList.map val).length ∧ ∀ (j : Nat) (hj : j < (xs.toList.map val).length), RepE cnt φ A w (at_ (xs.map ρ) j) (xs.toList.map val)[j] := by
  refine ⟨by simp, fun j hj => ?_⟩
  have hj' : j < xs.size := by simpa using hj
  have : at_ (xs.map ρ) j = ρ xs[j] := by simp [at_, hj']
  rw [this]
  simpa using hv xs[j] (h _ (Array.getElem_mem hj'))

theorem evalS_gives {own : Nat → Prop} {h : Heap} (hh : HRel own A h cnt φ w) {ρ : Operand → Value} {val : Operand → E} {n : Nat} (hv : ∀ x, inSlots n x = true → RepE cnt φ A w (ρ x) (val x))
    {o : Oper} (hin : ∀ x ∈ o.op.operands, inSlots n x = true) {e : E} (he : evalS P val h o.op = some e) : OpGives P cnt φ A w ρ o e := by
  obtain ⟨dst, op, type, pos, after, guard⟩ := o
  unfold evalS at he
  simp only at he hin
  split at he
  case h_1 x => injection he with he; subst he; exact ⟨_, by simp [execOp], hv x (hin x (by simp [Op.operands]))⟩
  case h_2 x => injection he with he; subst he; exact ⟨_, by simp [execOp], hv x (hin x (by simp [Op.operands]))⟩
  case h_3 c a b =>
    split at he
    · rename_i t ht
      injection he with he; subst he
      have hc := hv c (hin c (by simp [Op.operands]))
      rw [ht] at hc
      generalize hcc : ρ c = cc at *
      cases hc with
      | p hc =>
      cases hc
      exact ⟨_, by simp only [execOp, hcc, asBool, Sem.run_bind, Sem.run_pure, Result.andThen_ok], pickE_rep (hv a (hin a (by simp [Op.operands]))) (hv b (hin b (by simp [Op.operands])))⟩
    · cases he
  case h_4 t x => exact (loadE_gives hh (hv x (hin x (by simp [Op.operands]))) he).op rfl
  case h_5 x =>
    have hx := hv x (hin x (by simp [Op.operands]))
    generalize hxx : ρ x = cx at *
    generalize val x = ex at *
    unfold nilCheckE at he
    split at he
    · injection he with he; subst he; cases hx with
      | ptr _ h1 h2 => exact ⟨.pointer _, by simp [execOp, hxx], .ptr _ h1 h2⟩
    · injection he with he; subst he; cases hx with
      | pp h1 h2 h3 h4 h5 => exact ⟨.pointer _, by simp [execOp, hxx], .pp h1 h2 h3 h4 h5⟩
    · injection he with he; subst he; cases hx with
      | fn h1 h2 => exact ⟨.func _ _ _, by simp [execOp, hxx], .fn h1 h2⟩
    · cases he
  case h_6 op t x y ty => exact (binE_gives (hv x (hin x (by simp [Op.operands]))) (hv y (hin y (by simp [Op.operands]))) he).op rfl
  case h_7 op t x => exact (unE_gives (hv x (hin x (by simp [Op.operands]))) he).op rfl
  case h_8 src dst x => exact (convE_gives (hv x (hin x (by simp [Op.operands]))) he).op rfl
  case h_9 f first caps =>
    split at he
    · rename_i h0
      injection he with he; subst he
      have h1 : first = #[] := Array.eq_empty_of_size_eq_zero h0
      subst h1
      obtain ⟨g1, g2⟩ := rep_map hv caps (fun x hx => hin x (by simp [Op.operands, hx]))
      exact ⟨.func (.func f) #[] (caps.map ρ), by simp [execOp, Instr.makeFunc], .fn g1 g2⟩
    · cases he
  case h_10 t x lo hi mx =>
    refine (sliceE_gives (own := own) (hv x (hin x (by simp [Op.operands]))) ?_ ?_ ?_ ?_ ?_ he).op rfl
    · intro e h
      cases lo with
      | none => simp at h
      | some y => simp at h; subst h; exact ⟨_, rfl, hv y (hin y (by simp [Op.operands]))⟩
    · intro h; cases lo <;> simp at h ⊢
    · intro e h
      cases hi with
      | none => simp at h
      | some y => simp at h; subst h; exact ⟨_, rfl, hv y (hin y (by simp [Op.operands]))⟩
    · intro h; cases hi <;> simp at h ⊢
    · intro h; cases mx <;> simp at h ⊢
  case h_11 t x k => exact (fieldAddrE_gives (hv x (hin x (by simp [Op.operands]))) he).op rfl
  case h_12 t x k => exact (fieldE_gives (hv x (hin x (by simp [Op.operands]))) he).op rfl
  case h_13 t x i => exact (indexAddrE_gives (hv x (hin x (by simp [Op.operands]))) (hv i (hin i (by simp [Op.operands]))) he).op rfl
  case h_14 t x i => exact (indexE_gives (hv x (hin x (by simp [Op.operands]))) (hv i (hin i (by simp [Op.operands]))) he).op rfl
  case h_15 x i =>
    have hx := hv x (hin x (by simp [Op.operands]))
    generalize hxx : ρ x = cx at *
    generalize val x = ex at *
    unfold extractE at he
    split at he
    · cases hx with
      | tup h1 h2 =>
      rename_i vs arr
      obtain ⟨hlt, rfl⟩ := List.getElem?_eq_some_iff.1 he
      refine ⟨at_ arr i, ?_, h2 i hlt⟩
      have : arr[i]? = some (at_ arr i) := by simp [at_, show i < arr.size by omega]
      unfold execOp; simp only [hxx]; unfold Instr.extract; simp only [this, Sem.run_bind, Sem.run_pure, Result.andThen_ok]
    · cases he
  case h_16 b args argTypes =>
    have hargs : ∀ x ∈ args.toList, inSlots n x = true := fun x hx => hin x (by simp [Op.operands, Call.operands]; simpa using hx)
    split at he
    · rename_i x t hb ht
      have h1 : args = #[x] := by apply Array.ext'; simpa using hb
      have h2 : argTypes = #[t] := by apply Array.ext'; simpa using ht
      subst h1; subst h2
      obtain ⟨v, g1, g2⟩ := lenE_gives (hv x (hargs x (by simp))) he type
      exact ⟨v, by simp [execOp, resolve, invoke, builtin, g1], g2⟩
    · rename_i x y hb
      have h1 : args = #[x, y] := by apply Array.ext'; simpa using hb
      subst h1
      have hx := hv x (hargs x (by simp))
      have hy := hv y (hargs y (by simp))
      generalize hxx : ρ x = cx at *
      generalize hyy : ρ y = cy at *
      generalize val x = ex at *
      generalize val y = ey at *
      unfold maxE at he
      split at he
      · split at he
        · rename_i hk; subst hk
          injection he with he; subst he
          cases hx with
          | p hx =>
          cases hy with
          | p hy =>
          cases hx; cases hy
          exact ⟨.int _ _, by simp [execOp, resolve, invoke, builtin, Builtin.max_, hxx, hyy, max2_run]; exact ⟨rfl, rfl⟩, by simpa using RepE.p (.int _ _)⟩
        · cases he
      · cases he
    · rename_i x y hb
      have h1 : args = #[x, y] := by apply Array.ext'; simpa using hb
      subst h1
      have hx := hv x (hargs x (by simp))
      have hy := hv y (hargs y (by simp))
      generalize hxx : ρ x = cx at *
      generalize hyy : ρ y = cy at *
      generalize val x = ex at *
      generalize val y = ey at *
      unfold maxE at he
      split at he
      · split at he
        · rename_i hk; subst hk
          injection he with he; subst he
          cases hx with
          | p hx =>
          cases hy with
          | p hy =>
          cases hx; cases hy
          exact ⟨.int _ _, by simp [execOp, resolve, invoke, builtin, Builtin.min_, hxx, hyy, min2_run]; exact ⟨rfl, rfl⟩, by simpa using RepE.p (.int _ _)⟩
        · cases he
      · cases he
    · cases he
  case h_17 => cases he

end
end Go.Vm
