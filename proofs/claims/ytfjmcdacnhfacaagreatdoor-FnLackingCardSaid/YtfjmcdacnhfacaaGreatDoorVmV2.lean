/- The interpreter over finite data does what the machine does. No condition. -/
import Derived.Test.YtfjmcdacnhfacaaGreatDoorVmV1
set_option linter.all false
namespace Go.Vm
open Go

theorem lookD_h {h : Bs} {id : Id} : hOf h id = (lookD h id).map (⟨true, ·⟩) := by
  unfold hOf lookD
  rw [beq_eq, Bool.cond_decide]
  split <;> rfl

theorem lookD_zero {h : Bs} {id : Id} {b : List E} (hl : lookD h id = some b) : id.1 = 0 ∧ lookB h id.2 = some b := by
  unfold lookD at hl
  rw [beq_eq, Bool.cond_decide] at hl
  split at hl
  · rename_i h0; exact ⟨h0, hl⟩
  · cases hl

theorem hOf_push {h : Bs} {c : Nat} {cs : List E} : hOf ((c, cs) :: h) = updI (hOf h) (0, c) (some ⟨true, cs⟩) := by
  funext id
  obtain ⟨a, b⟩ := id
  simp only [hOf, updI, lookB, beq_eq, Bool.cond_decide, Prod.mk.injEq]
  by_cases h0 : a = 0
  · subst h0
    by_cases hb : c = b
    · subst hb; simp
    · simp [hb, Ne.symm hb]
  · simp [h0]

theorem lookB_setB {cs : List E} {k m : Nat} : ∀ {h : Bs} {b : List E}, lookB h k = some b → lookB (setB h k cs) m = if m = k then some cs else lookB h m
  | [], b, hl => by simp [lookB] at hl
  | (j, x) :: l, b, hl => by
    simp only [lookB, setB, beq_eq, Bool.cond_decide] at hl ⊢
    by_cases hj : j = k
    · subst hj
      simp only [if_true, lookB, beq_eq, Bool.cond_decide]
      by_cases hm : m = j
      · subst hm; simp
      · simp [hm, Ne.symm hm]
    · simp only [hj, if_false, lookB, beq_eq, Bool.cond_decide] at hl ⊢
      rw [lookB_setB hl]
      by_cases hm : j = m
      · subst hm; simp [hj]
      · simp [hm]

theorem hOf_setB {h : Bs} {id : Id} {b cs : List E} (hl : lookD h id = some b) : hOf (setB h id.2 cs) = updI (hOf h) id (some ⟨true, cs⟩) := by
  obtain ⟨h0, hl⟩ := lookD_zero hl
  funext i
  obtain ⟨a, k⟩ := id
  obtain ⟨a', k'⟩ := i
  simp only at h0 hl; subst h0
  simp only [hOf, updI, Prod.mk.injEq, lookB_setB hl]
  by_cases ha : a' = 0
  · by_cases hk : k' = k <;> simp [ha, hk]
  · simp [ha]

theorem lookB_delB {k m : Nat} : ∀ {h : Bs}, lookB (delB h k) m = if m = k then none else lookB h m
  | [] => by simp [lookB, delB]
  | (j, x) :: l => by
    simp only [lookB, delB, beq_eq, Bool.cond_decide]
    by_cases hj : j = k
    · subst hj
      simp only [if_true]
      rw [lookB_delB]
      by_cases hm : m = j
      · subst hm; simp
      · simp [hm, Ne.symm hm]
    · simp only [hj, if_false, lookB, beq_eq, Bool.cond_decide]
      rw [lookB_delB]
      by_cases hm : j = m
      · subst hm; simp [hj]
      · simp [hm]

theorem hOf_delB {h : Bs} {id : Id} (h0 : id.1 = 0) : hOf (delB h id.2) = updI (hOf h) id none := by
  funext i
  obtain ⟨a, k⟩ := id
  obtain ⟨a', k'⟩ := i
  simp only at h0; subst h0
  simp only [hOf, updI, Prod.mk.injEq, lookB_delB]
  by_cases ha : a' = 0
  · by_cases hk : k' = k <;> simp [ha, hk]
  · simp [ha]

theorem lookB_oldB {c m : Nat} : ∀ {h : Bs}, lookB (oldB h c) m = if m < c then lookB h m else none
  | [] => by simp [lookB, oldB]
  | (j, x) :: l => by
    have hble : Nat.ble c j = decide (c ≤ j) := by
      by_cases h : c ≤ j
      · simp [h, Nat.ble_eq]
      · simp only [h, decide_false]
        cases hb : Nat.ble c j with
        | false => rfl
        | true => exact absurd (Nat.le_of_ble_eq_true hb) h
    simp only [lookB, oldB, beq_eq, hble, Bool.cond_decide]
    by_cases hj : c ≤ j
    · simp only [hj, if_true]
      rw [lookB_oldB]
      by_cases hm : j = m
      · subst hm; simp [Nat.not_lt.2 hj]
      · simp [hm]
    · simp only [hj, if_false, lookB, beq_eq, Bool.cond_decide]
      rw [lookB_oldB]
      by_cases hm : j = m
      · subst hm; simp; omega
      · simp [hm]

theorem cOf_succ {c : Nat} : cOf (c + 1) = upd (cOf c) 0 (cOf c 0 + 1) := by
  funext d; simp only [cOf, upd]; by_cases h : d = 0 <;> simp [h]

theorem val_st {s : DS} : s.st.val = s.val := by
  funext x; cases x <;> rfl

theorem wantedD_st {ops : Array Oper} {s : DS} {o : Oper} : wantedE ops s.st o = wantedD ops s o := rfl

def dstIn (d : Option Tmp) : Bool := match d with
  | some t => decide (t < 1000000)
  | none => true

theorem put_st {s : DS} {d : Option Tmp} {e : E} (hd : dstIn d = true) : (s.put d e).st = s.st.set d e := by
  cases d with
  | none => rfl
  | some t =>
    have ht : t + 1 < 2 ^ 20 := by
      have h1 : t < 1000000 := of_decide_eq_true hd
      have h2 : (2 : Nat) ^ 20 = 1048576 := by decide
      rw [h2]
      exact Nat.lt_of_le_of_lt (Nat.succ_le_of_lt h1) (by decide)
    simp only [DS.put, DS.st, St.set]
    congr 1
    funext j
    rw [Tr.get_set 20 s.env t e j ht]
    rfl

/-- The blocks behind: new names alone, or those of before. -/
def Ext (s s' : DS) : Prop := s.c ≤ s'.c ∧ ∀ k, lookB s'.heap k ≠ none → lookB s.heap k ≠ none ∨ s.c ≤ k

theorem Ext.refl {s : DS} : Ext s s := ⟨Nat.le_refl _, fun _ h => .inl h⟩
theorem Ext.trans {s s' s'' : DS} (h : Ext s s') (h' : Ext s' s'') : Ext s s'' :=
  ⟨Nat.le_trans h.1 h'.1, fun k hk => by
    rcases h'.2 k hk with g | g
    · exact h.2 k g
    · exact .inr (Nat.le_trans h.1 g)⟩
theorem Ext.put {s s' : DS} {d : Option Tmp} {e : E} (h : Ext s s') : Ext s (s'.put d e) := by cases d <;> exact h

structure CallOk (P : Program) (call : CallD) : Prop where
  ok : ∀ (g : FuncId) (args : List E) (h : Bs) (c : Nat) (r : E) (h' : Bs) (c' : Nat), call g args h c = some (r, h', c') → Callable P g ∧ c ≤ c' ∧ (∀ k, lookB h' k ≠ none → lookB h k ≠ none ∨ c ≤ k) ∧
    SpecAt P g (hOf h) args (fun h1 cnt' r' => h1 = hOf h' ∧ cnt' = cOf c' ∧ r' = r) (cOf c)

section
variable {P : Program} {ops : Array Oper} {call : CallD} {s s' : DS} {o : Oper}

theorem storeD_st {t : TypeId} {x v : E} {h : Bs} (he : storeD P t s.heap x v = some h) : storeE P t s.st x v = some (DS.st { s with heap := h }) := by
  unfold storeD at he
  unfold storeE
  split at he
  · rename_i id off es hes
    simp only [hes]
    split at he
    · rename_i cells hl
      split at he
      · rename_i hc
        injection he with he; subst he
        have hh : s.st.heap id = some ⟨true, cells⟩ := by show hOf s.heap id = _; rw [lookD_h, hl]; rfl
        simp only [hh, hc, true_and, if_true]
        simp only [DS.st, hOf_setB hl]
      · cases he
    · cases he
  · cases he

theorem appendD_st {t0 t1 : TypeId} {x v r : E} {h : Bs} {c : Nat} {tt : Option Tmp} (hd : dstIn tt = true) (he : appendD P t0 t1 s.heap s.c x v = some (h, c, r)) :
    appendE P t0 t1 0 tt s.st x v = some (DS.put { s with heap := h, c := c } tt r).st := by
  unfold appendD at he
  unfold appendE
  split at he
  · cases he
  rename_i el hel
  simp only [hel]
  split at he
  rotate_left
  · cases he
  rename_i n by_ hn hby
  simp only [hn, hby]
  split at he
  rotate_left
  · cases he
  rename_i hpos
  rw [if_pos hpos]
  split at he
  · cases he
  rename_i es hes
  have hes' : srcE P t1 n s.st.heap v = some es := hes
  simp only [hes']
  have hc0 : s.st.cnt 0 = s.c := by simp [DS.st, cOf]
  split at he
  · split at he
    · rename_i h0
      injection he with he; injection he with e1 e2; injection e2 with e2 e3; subst e1; subst e2; subst e3
      rw [if_pos h0, put_st hd]
    · rename_i h0
      rw [if_neg h0]
      split at he
      · rename_i hb
        injection he with he; injection he with e1 e2; injection e2 with e2 e3; subst e1; subst e2; subst e3
        rw [if_pos hb, put_st hd]
        simp only [DS.st, St.newBlk, hOf_push, cOf_succ, hc0]
        simp [cOf]
      · cases he
  · rename_i id sz off len
    split at he
    · cases he
    · rename_i cells hl
      have hh : s.st.heap id = some ⟨true, cells⟩ := by show hOf s.heap id = _; rw [lookD_h, hl]; rfl
      simp only [hh]
      split at he
      · rename_i hc
        injection he with he; injection he with e1 e2; injection e2 with e2 e3; subst e1; subst e2; subst e3
        rw [if_pos ⟨hc.1, hc.2.1, .inl trivial, hc.2.2⟩, put_st hd]
        simp only [DS.st, hOf_push, hOf_delB (lookD_zero hl).1, cOf_succ]
        simp [cOf]
      · cases he
  · cases he

theorem copyD_st {t0 t1 : TypeId} {x v r : E} {h : Bs} {tt : Option Tmp} (hd : dstIn tt = true) (he : copyD P t0 t1 s.heap x v = some (h, r)) :
    copyE P t0 t1 tt s.st x v = some (DS.put { s with heap := h } tt r).st := by
  unfold copyD at he
  unfold copyE
  split at he
  · cases he
  rename_i el hel
  simp only [hel]
  split at he
  rotate_left
  · cases he
  rename_i n id sz off len hn
  simp only [hn]
  split at he
  rotate_left
  · cases he
  rename_i es cells hes hl
  have hes' : srcE P t1 n s.st.heap v = some es := hes
  have hh : s.st.heap id = some ⟨true, cells⟩ := by show hOf s.heap id = _; rw [lookD_h, hl]; rfl
  simp only [hes', hh]
  split at he
  · rename_i hc
    injection he with he; injection he with e1 e2; subst e1; subst e2
    rw [if_pos ⟨hc.1, hc.2.1, trivial, hc.2.2⟩, put_st hd]
    simp only [DS.st, hOf_setB hl]
  · cases he

theorem clearD_st {t : TypeId} {x : E} {h : Bs} {tt : Option Tmp} (hd : dstIn tt = true) (he : clearD P t s.heap x = some h) :
    clearE P t tt s.st x = some (DS.put { s with heap := h } tt (.tup [])).st := by
  unfold clearD at he
  unfold clearE
  split at he
  · cases he
  rename_i el hel
  simp only [hel]
  split at he
  · rename_i n zs id sz off len hn hz
    simp only [hn, hz]
    split at he
    · rename_i hl
      injection he with he; subst he
      rw [if_pos hl, put_st hd]
    · rename_i hl
      rw [if_neg hl]
      split at he
      · rename_i cells hlk
        have hh : s.st.heap id = some ⟨true, cells⟩ := by show hOf s.heap id = _; rw [lookD_h, hlk]; rfl
        simp only [hh]
        split at he
        · rename_i hc
          injection he with he; subst he
          rw [if_pos ⟨hc.1, hc.2.1, trivial, hc.2.2⟩, put_st hd]
          simp only [DS.st, hOf_setB hlk]
        · cases he
      · cases he
  · rename_i n zs hn hz
    injection he with he; subst he
    simp only [hn, hz, put_st hd]
  · rename_i n zs k hn hz
    injection he with he; subst he
    simp only [hn, hz, put_st hd]
  · cases he

theorem clearD_ext {t : TypeId} {x : E} {h : Bs} (he : clearD P t s.heap x = some h) : Ext s { s with heap := h } := by
  unfold clearD at he
  split at he
  · cases he
  split at he
  · split at he
    · injection he with he; subst he; exact Ext.refl
    · split at he
      · rename_i cells hl
        split at he
        · injection he with he; subst he
          refine ⟨Nat.le_refl _, fun k hk => .inl ?_⟩
          rw [lookB_setB (lookD_zero hl).2] at hk
          split at hk
          · rename_i hk2; rw [hk2, (lookD_zero hl).2]; simp
          · exact hk
        · cases he
      · cases he
  · injection he with he; subst he; exact Ext.refl
  · injection he with he; subst he; exact Ext.refl
  · cases he

theorem clearD_step (hd : dstIn o.dst = true) (hw : wantedD ops s o = some true) (he : opD P call s o = some s') {args : Array Operand} {types : Array TypeId} (hop : o.op = .call { callee := .builtin .clear, args, argTypes := types }) :
    StepK P ops .w o s.st s'.st ∧ Ext s s' := by
  have hwe : wantedE ops s.st o = some true := by rw [wantedD_st]; exact hw
  unfold opD at he
  simp only [hop] at he
  split at he
  · rename_i x t hx ht
    simp only [Option.map_eq_some_iff] at he
    obtain ⟨h, hh, rfl⟩ := he
    refine ⟨?_, Ext.put (clearD_ext hh)⟩
    refine .w (nm := 0) hwe ?_
    unfold evalW
    simp only [hop, hx, ht, val_st, clearD_st hd hh]
  · cases he

theorem storeD_ext {t : TypeId} {x v : E} {h : Bs} (he : storeD P t s.heap x v = some h) : Ext s { s with heap := h } := by
  unfold storeD at he
  split at he
  · split at he
    · rename_i cells hl
      split at he
      · injection he with he; subst he
        refine ⟨Nat.le_refl _, fun k hk => .inl ?_⟩
        rw [lookB_setB (lookD_zero hl).2] at hk
        split at hk
        · rename_i hk2; rw [hk2, (lookD_zero hl).2]; simp
        · exact hk
      · cases he
    · cases he
  · cases he

theorem appendD_ext {t0 t1 : TypeId} {x v r : E} {h : Bs} {c : Nat} (he : appendD P t0 t1 s.heap s.c x v = some (h, c, r)) : Ext s { s with heap := h, c := c } := by
  unfold appendD at he
  split at he
  · cases he
  split at he
  rotate_left
  · cases he
  split at he
  rotate_left
  · cases he
  split at he
  · cases he
  split at he
  · split at he
    · injection he with he; injection he with e1 e2; injection e2 with e2 e3; subst e1; subst e2; subst e3
      exact Ext.refl
    · split at he
      · injection he with he; injection he with e1 e2; injection e2 with e2 e3; subst e1; subst e2; subst e3
        refine ⟨Nat.le_succ _, fun k hk => ?_⟩
        simp only [lookB, beq_eq, Bool.cond_decide] at hk
        split at hk
        · rename_i hk2; exact .inr (Nat.le_of_eq hk2)
        · exact .inl hk
      · cases he
  · split at he
    · cases he
    · split at he
      · injection he with he; injection he with e1 e2; injection e2 with e2 e3; subst e1; subst e2; subst e3
        refine ⟨Nat.le_succ _, fun k hk => ?_⟩
        simp only [lookB, beq_eq, Bool.cond_decide, lookB_delB] at hk
        split at hk
        · rename_i hk2; exact .inr (Nat.le_of_eq hk2)
        · split at hk
          · exact absurd rfl hk
          · exact .inl hk
      · cases he
  · cases he

theorem copyD_ext {t0 t1 : TypeId} {x v r : E} {h : Bs} (he : copyD P t0 t1 s.heap x v = some (h, r)) : Ext s { s with heap := h } := by
  unfold copyD at he
  split at he
  · cases he
  split at he
  rotate_left
  · cases he
  split at he
  rotate_left
  · cases he
  rename_i es cells hes hl
  split at he
  · injection he with he; injection he with e1 e2; subst e1; subst e2
    refine ⟨Nat.le_refl _, fun k hk => .inl ?_⟩
    rw [lookB_setB (lookD_zero hl).2] at hk
    split at hk
    · rename_i hk2; rw [hk2, (lookD_zero hl).2]; simp
    · exact hk
  · cases he

theorem newD_step (hd : dstIn o.dst = true) (hw : wantedD ops s o = some true) (he : newD P s o = some s') : StepK P ops .a o s.st s'.st ∧ Ext s s' := by
  unfold newD at he
  split at he
  · rename_i cs mk hev
    injection he with he; subst he
    rw [put_st hd]
    have := StepK.a (P := P) (ops := ops) (o := o) (s := s.st) (nm := 0) (by rw [wantedD_st]; exact hw) (by rw [val_st]; exact hev)
    refine ⟨?_, Ext.put ⟨Nat.le_succ _, fun k hk => ?_⟩⟩
    · have e : (St.newBlk s.st 0 cs).set o.dst (mk (0, s.st.cnt 0)) = (DS.st { s with heap := (s.c, cs) :: s.heap, c := s.c + 1 }).set o.dst (mk (0, s.c)) := by
        have hc0 : s.st.cnt 0 = s.c := by simp [DS.st, cOf]
        rw [hc0]
        congr 1
        simp only [DS.st, St.newBlk, hOf_push, cOf_succ]
        simp [cOf]
      rw [← e]; exact this
    · simp only [lookB, beq_eq, Bool.cond_decide] at hk
      split at hk
      · rename_i hk2; exact .inr (Nat.le_of_eq hk2)
      · exact .inl hk
  · cases he

theorem valD_step {e : E} (hd : dstIn o.dst = true) (hw : wantedD ops s o = some true) (he : evalV P s.val (hOf s.heap) o.op = some e) : StepK P ops .r o s.st (s.put o.dst e).st := by
  rw [put_st hd]
  exact .vr (by rw [wantedD_st]; exact hw) (by rw [val_st]; exact he)

theorem valD_step0 {e : E} (hd : dstIn o.dst = true) (hw : wantedD ops s o = some true) (he : evalV P s.val noHeap o.op = some e) : StepK P ops .s o s.st (s.put o.dst e).st := by
  rw [put_st hd]
  exact .vs (by rw [wantedD_st]; exact hw) (by rw [val_st]; exact he)

/-- Stores and the like: what opD does is a step that writes. -/
theorem writeD_step (hd : dstIn o.dst = true) (hw : wantedD ops s o = some true) (he : opD P call s o = some s')
    (hk : (∃ t x v, o.op = .store t x v) ∨ (∃ args types, o.op = .call { callee := .builtin .append, args, argTypes := types }) ∨ (∃ args types, o.op = .call { callee := .builtin .copy, args, argTypes := types })) :
    StepK P ops .w o s.st s'.st ∧ Ext s s' := by
  have hwe : wantedE ops s.st o = some true := by rw [wantedD_st]; exact hw
  rcases hk with ⟨t, x, v, hop⟩ | ⟨args, types, hop⟩ | ⟨args, types, hop⟩
  · unfold opD at he
    simp only [hop, Option.map_eq_some_iff] at he
    obtain ⟨h, hh, rfl⟩ := he
    refine ⟨?_, Ext.put (storeD_ext hh)⟩
    rw [put_st hd]
    refine .w (nm := 0) hwe ?_
    unfold evalW
    simp only [hop, val_st, storeD_st hh, Option.map_some]
  · unfold opD at he
    simp only [hop] at he
    split at he
    · rename_i x y t0 t1 hx ht
      split at he
      · rename_i h c r hh
        injection he with he; subst he
        refine ⟨?_, Ext.put (appendD_ext hh)⟩
        refine .w (nm := 0) hwe ?_
        unfold evalW
        simp only [hop, hx, ht, val_st, appendD_st hd hh]
      · cases he
    · cases he
  · unfold opD at he
    simp only [hop] at he
    split at he
    · rename_i x y t0 t1 hx ht
      split at he
      · rename_i h r hh
        injection he with he; subst he
        refine ⟨?_, Ext.put (copyD_ext hh)⟩
        refine .w (nm := 0) hwe ?_
        unfold evalW
        simp only [hop, hx, ht, val_st, copyD_st hd hh]
      · cases he
    · cases he

theorem appendE_frame {t0 t1 : TypeId} {nm : Nat} {tt : Option Tmp} {s s1 : St} {x v : E} (h : appendE P t0 t1 nm tt s x v = some s1) : ∀ id : Id, id ≠ wbId x → id.2 < s.cnt id.1 → s1.heap id = s.heap id := by
  intro id hne hlt
  have hnew : id ≠ (nm, s.cnt nm) := fun he => by subst he; simp at hlt
  unfold appendE at h
  split at h
  · cases h
  split at h
  rotate_left
  · cases h
  split at h
  rotate_left
  · cases h
  split at h
  · cases h
  split at h
  · split at h
    · injection h with h; subst h; rw [set_heap]
    · split at h
      · injection h with h; subst h
        rw [set_heap]; simp only [St.newBlk, updI, if_neg hnew]
      · cases h
  · split at h
    · cases h
    · split at h
      · injection h with h; subst h
        rw [set_heap]; simp only [updI, if_neg hnew]
        rw [if_neg (by simpa [wbId] using hne)]
      · cases h
  · cases h

theorem copyE_frame {t0 t1 : TypeId} {tt : Option Tmp} {s s1 : St} {x v : E} (h : copyE P t0 t1 tt s x v = some s1) : ∀ id : Id, id ≠ wbId x → s1.heap id = s.heap id := by
  intro id hne
  unfold copyE at h
  split at h
  · cases h
  split at h
  rotate_left
  · cases h
  split at h
  rotate_left
  · cases h
  split at h
  · injection h with h; subst h
    rw [set_heap]; simp only [updI]
    rw [if_neg (by simpa [wbId] using hne)]
  · cases h

theorem writeD_wb (hd : dstIn o.dst = true) (hw : wantedD ops s o = some true) (he : opD P call s o = some s')
    (hk : (∃ t x v, o.op = .store t x v) ∨ (∃ args types, o.op = .call { callee := .builtin .append, args, argTypes := types }) ∨ (∃ args types, o.op = .call { callee := .builtin .copy, args, argTypes := types })) :
    StepK P ops (.wb (wbOf s o)) o s.st s'.st ∧ Ext s s' := by
  have hwe : wantedE ops s.st o = some true := by rw [wantedD_st]; exact hw
  rcases hk with ⟨t, x, v, hop⟩ | ⟨args, types, hop⟩ | ⟨args, types, hop⟩
  · unfold opD at he
    simp only [hop, Option.map_eq_some_iff] at he
    obtain ⟨h, hh, rfl⟩ := he
    refine ⟨?_, Ext.put (storeD_ext hh)⟩
    rw [put_st hd]
    have hst := storeD_st hh
    refine .wb (nm := 0) hwe ?_ fun id hne _ => ?_
    · unfold evalW
      simp only [hop, val_st, hst, Option.map_some]
    · rw [set_heap]
      have hne' : id ≠ wbId (s.val x) := by simpa [wbOf, hop] using hne
      unfold storeD at hh
      split at hh
      · rename_i id0 off es hx hes
        exact (storeE_spec hst).2.2.1 id0 off (by assumption) id (by rw [show s.val x = .ptr id0 off by assumption] at hne'; exact hne')
      · cases hh
  · unfold opD at he
    simp only [hop] at he
    split at he
    · rename_i x y t0 t1 hx ht
      split at he
      · rename_i h c r hh
        injection he with he; subst he
        refine ⟨?_, Ext.put (appendD_ext hh)⟩
        have hst := appendD_st (tt := o.dst) hd hh
        refine .wb (nm := 0) hwe ?_ fun id hne hlt => ?_
        · unfold evalW
          simp only [hop, hx, ht, val_st, hst]
        · exact appendE_frame hst id (by simpa [wbOf, hop, hx] using hne) hlt
      · cases he
    · cases he
  · unfold opD at he
    simp only [hop] at he
    split at he
    · rename_i x y t0 t1 hx ht
      split at he
      · rename_i h r hh
        injection he with he; subst he
        refine ⟨?_, Ext.put (copyD_ext hh)⟩
        have hst := copyD_st (tt := o.dst) hd hh
        refine .wb (nm := 0) hwe ?_ fun id hne hlt => ?_
        · unfold evalW
          simp only [hop, hx, ht, val_st, hst]
        · exact copyE_frame hst id (by simpa [wbOf, hop, hx] using hne)
      · cases he
    · cases he

theorem merge_self {h : Heap} {h1 : Heap} : merge h h h1 = h1 := by
  funext id
  unfold merge
  cases h1 id with
  | some b => rfl
  | none => cases h id <;> rfl

theorem opD_sound (hc : CallOk P call) (hd : dstIn o.dst = true) (hw : wantedD ops s o = some true) (he : opD P call s o = some s') :
    Ext s s' ∧ ∀ (k0 : Nat → Nat) (K : St → Prop) (l : List Oper), AL P k0 ops K l s'.st → AL P k0 ops K (o :: l) s.st := by
  have hwe : wantedE ops s.st o = some true := by rw [wantedD_st]; exact hw
  have he0 := he
  unfold opD at he
  split at he
  · rename_i t x v hop
    obtain ⟨g1, g2⟩ := writeD_step hd hw he0 (.inl ⟨t, x, v, hop⟩)
    exact ⟨g2, fun k0 K l hl => .step g1 hl⟩
  · rename_i f args types hop
    split at he
    · rename_i g caps hf
      split at he
      · rename_i r h c hcall
        injection he with he; subst he
        obtain ⟨c1, c2, c3, c4⟩ := hc.ok _ _ _ _ _ _ _ hcall
        refine ⟨Ext.put ⟨c2, c3⟩, fun k0 K l hl => ?_⟩
        refine .call (K' := fun s1 => s1 = (DS.put { s with heap := h, c := c } o.dst r).st) hwe ⟨f, args, types, g, caps, callArgs s.st args caps, hOf s.heap, fun h1 cnt' r' => h1 = hOf h ∧ cnt' = cOf c ∧ r' = r, hop, by rw [val_st]; exact hf, c1,
          ⟨rfl, fun j _ _ => .refl _⟩, fun id b hb => ⟨hb, ?_⟩, ?_, ?_⟩ fun s1 hs1 => by rw [hs1]; exact hl
        · rw [lookD_h] at hb
          simp only [Option.map_eq_some_iff] at hb
          obtain ⟨b0, _, rfl⟩ := hb; rfl
        · have : callArgs s.st args caps = args.toList.map s.val ++ caps := by unfold callArgs; rw [val_st]
          rw [this]
          exact c4
        · rintro h1 r' cnt' ⟨rfl, rfl, rfl⟩ _ _ _
          rw [put_st hd]
          have : merge s.st.heap (hOf s.heap) (hOf h) = hOf h := merge_self
          rw [this]
          rfl
      · cases he
    · cases he
  · rename_i args types hop
    obtain ⟨g1, g2⟩ := writeD_step hd hw he0 (.inr (.inl ⟨args, types, hop⟩))
    exact ⟨g2, fun k0 K l hl => .step g1 hl⟩
  · rename_i args types hop
    obtain ⟨g1, g2⟩ := writeD_step hd hw he0 (.inr (.inr ⟨args, types, hop⟩))
    exact ⟨g2, fun k0 K l hl => .step g1 hl⟩
  · rename_i args types hop
    obtain ⟨g1, g2⟩ := clearD_step hd hw he0 hop
    exact ⟨g2, fun k0 K l hl => .step g1 hl⟩
  · have new : newD P s o = some s' → Ext s s' ∧ ∀ (k0 : Nat → Nat) (K : St → Prop) (l : List Oper), AL P k0 ops K l s'.st → AL P k0 ops K (o :: l) s.st := fun hn =>
      ⟨(newD_step hd hw hn).2, fun k0 K l hl => .step (newD_step hd hw hn).1 hl⟩
    cases hA : isA o.op with
    | true => rw [hA] at he; exact new he
    | false =>
      rw [hA] at he
      simp only [cond_false] at he
      split at he
      · rename_i e hev
        injection he with he; subst he
        exact ⟨Ext.put Ext.refl, fun k0 K l hl => .step (valD_step hd hw hev) hl⟩
      · exact new he

theorem opsD_sound (hc : CallOk P call) : ∀ (l : List Oper) (s s' : DS), (∀ o ∈ l, dstIn o.dst = true) → opsD P call ops l s = some s' →
    Ext s s' ∧ ∀ (k0 : Nat → Nat) (K : St → Prop), K s'.st → AL P k0 ops K l s.st
  | [], s, s', _, he => by
    simp only [opsD, Option.some.injEq] at he; subst he
    exact ⟨Ext.refl, fun k0 K hk => .nil hk⟩
  | o :: l, s, s', hd, he => by
    have hdo := hd o (List.mem_cons_self ..)
    have hdl : ∀ o ∈ l, dstIn o.dst = true := fun o ho => hd o (List.mem_cons_of_mem _ ho)
    simp only [opsD] at he
    split at he
    · rename_i hw
      split at he
      · rename_i s1 h1
        obtain ⟨e1, g1⟩ := opD_sound hc hdo hw h1
        obtain ⟨e2, g2⟩ := opsD_sound hc l s1 s' hdl he
        exact ⟨e1.trans e2, fun k0 K hk => g1 k0 K l (g2 k0 K hk)⟩
      · cases he
    · rename_i hw
      obtain ⟨e2, g2⟩ := opsD_sound hc l _ s' hdl he
      refine ⟨Ext.trans (Ext.put Ext.refl) e2, fun k0 K hk => .step (k := .s) (.skip (by rw [wantedD_st]; exact hw)) ?_⟩
      rw [← put_st hdo]
      exact g2 k0 K hk
    · cases he

end
end Go.Vm
