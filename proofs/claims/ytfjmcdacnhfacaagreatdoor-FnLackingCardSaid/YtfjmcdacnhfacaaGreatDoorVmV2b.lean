/- The interpreter: slices given up, states merged. No condition. -/
import Derived.Test.YtfjmcdacnhfacaaGreatDoorVmV2
set_option linter.all false
namespace Go.Vm
open Go

section
variable {k0 : Nat → Nat} {s s' : St}

/-- Slots and blocks may be forgotten, and names be given away. -/
theorem Goes.weaken (henv : ∀ t, s'.env t = s.env t ∨ s'.env t = .dead) (hheap : ∀ id b, s'.heap id = some b → s.heap id = some b) (hcnt : ∀ d, s.cnt d ≤ s'.cnt d) : Goes k0 s s' := by
  rintro C a w _ ⟨φ, h⟩
  have h1 := h.weaken (h' := s'.heap) fun id b hb => ⟨b, hheap id b hb, rfl, fun q => q⟩
  have hk : Keeps (Ok C s'.heap φ) w (Ok C s'.heap φ) w := Keeps.refl fun _ _ q => q
  have h2 := h1.evolve (h' := s'.heap) (cnt' := s'.cnt) (φ' := φ) hcnt (fun _ _ => rfl) hk
    ⟨fun id b hb => (h1.heap.blk id b hb).mono hcnt (fun _ _ => rfl) hk fun arr T fr hr' => ⟨arr, fr, hr', rfl, fun _ _ q => q, fun _ _ => rfl⟩, h1.heap.inj⟩ (fun _ _ _ => rfl) (Nat.le_refl _) .refl
  refine ⟨φ, ⟨h2.heap, fun t ht => ?_, h2.low, h2.grew, h2.lentLow, h2.rows, h2.cntLe, h2.phi, h2.defers, h2.out⟩⟩
  rcases henv t with he | he
  · rw [he]; exact h2.slots t ht
  · rw [he]; exact .dead _
end

mutual
theorem P.same_eq : ∀ {a b : P}, a.same b = true → a = b
  | .int k n, .int k' n', h => by simp [P.same] at h; rw [h.1, h.2]
  | .bool b, .bool b', h => by simp [P.same] at h; rw [h]
  | .str a, .str b, h => by simp [P.same] at h; rw [h]
  | .list sz a, .list sz' b, h => by
    simp only [P.same, Bool.and_eq_true] at h
    rw [Nat.eq_of_beq_eq_true h.1, sameP_eq h.2]
  | .agg a, .agg b, h => by simp only [P.same] at h; rw [sameP_eq h]
  | .int _ _, .bool _, h | .int _ _, .str _, h | .int _ _, .list _ _, h | .int _ _, .agg _, h => by simp [P.same] at h
  | .bool _, .int _ _, h | .bool _, .str _, h | .bool _, .list _ _, h | .bool _, .agg _, h => by simp [P.same] at h
  | .str _, .int _ _, h | .str _, .bool _, h | .str _, .list _ _, h | .str _, .agg _, h => by simp [P.same] at h
  | .list _ _, .int _ _, h | .list _ _, .bool _, h | .list _ _, .str _, h | .list _ _, .agg _, h => by simp [P.same] at h
  | .agg _, .int _ _, h | .agg _, .bool _, h | .agg _, .str _, h | .agg _, .list _ _, h => by simp [P.same] at h
theorem sameP_eq : ∀ {a b : List P}, sameP a b = true → a = b
  | [], [], _ => rfl
  | a :: r, b :: s, h => by
    simp only [sameP, Bool.and_eq_true] at h
    rw [P.same_eq h.1, sameP_eq h.2]
  | [], _ :: _, h => by simp [sameP] at h
  | _ :: _, [], h => by simp [sameP] at h
end

mutual
theorem E.same_eq : ∀ {a b : E}, a.same b = true → a = b
  | .p a, b, h => by
    cases b with
    | p b => simp only [E.same] at h; rw [P.same_eq h]
    | _ => simp [E.same] at h
  | .nil, b, h => by cases b <;> simp [E.same] at h; rfl
  | .ptr i o, b, h => by
    cases b with
    | ptr i' o' =>
      simp only [E.same, Bool.and_eq_true] at h
      rw [Prod.ext (Nat.eq_of_beq_eq_true h.1.1) (Nat.eq_of_beq_eq_true h.1.2), Nat.eq_of_beq_eq_true h.2]
    | _ => simp [E.same] at h
  | .pp a, b, h => by
    cases b with
    | pp b => simp only [E.same] at h; rw [sameP_eq h]
    | _ => simp [E.same] at h
  | .sl i sz o l, b, h => by
    cases b with
    | sl i' sz' o' l' =>
      simp only [E.same, Bool.and_eq_true] at h
      obtain ⟨⟨⟨⟨h1, h2⟩, h3⟩, h4⟩, h5⟩ := h
      rw [Prod.ext (Nat.eq_of_beq_eq_true h1) (Nat.eq_of_beq_eq_true h2), Nat.eq_of_beq_eq_true h3, Nat.eq_of_beq_eq_true h4, Nat.eq_of_beq_eq_true h5]
    | _ => simp [E.same] at h
  | .agg a, b, h => by
    cases b with
    | agg b => simp only [E.same] at h; rw [sameE_eq h]
    | _ => simp [E.same] at h
  | .tup a, b, h => by
    cases b with
    | tup b => simp only [E.same] at h; rw [sameE_eq h]
    | _ => simp [E.same] at h
  | .fn f a, b, h => by
    cases b with
    | fn g b => simp only [E.same, Bool.and_eq_true] at h; rw [Nat.eq_of_beq_eq_true h.1, sameE_eq h.2]
    | _ => simp [E.same] at h
  | .dead, b, h => by cases b <;> simp [E.same] at h
theorem sameE_eq : ∀ {a b : List E}, sameE a b = true → a = b
  | [], [], _ => rfl
  | a :: r, b :: s, h => by
    simp only [sameE, Bool.and_eq_true] at h
    rw [E.same_eq h.1, sameE_eq h.2]
  | [], _ :: _, h => by simp [sameE] at h
  | _ :: _, [], h => by simp [sameE] at h
end

theorem Tr.merge_get : ∀ (a b : Tr) (n : Nat), (a.merge b).get n = .dead ∨ ((a.merge b).get n = a.get n ∧ (a.merge b).get n = b.get n)
  | .leaf, b, n => .inl (by cases b <;> rfl)
  | .node l v r, .leaf, n => .inl rfl
  | .node l v r, .node l' v' r', n => by
    simp only [Tr.merge, Tr.get]
    cases h0 : Nat.beq n 0 with
    | true =>
      simp only [cond_true]
      cases hs : v.same v' with
      | true => right; simp only [cond_true]; exact ⟨trivial, E.same_eq hs⟩
      | false => left; rfl
    | false =>
      simp only [cond_false]
      cases h1 : Nat.beq ((n - 1) % 2) 0 with
      | true => exact Tr.merge_get l l' _
      | false => exact Tr.merge_get r r' _

theorem mergeB_look : ∀ (f : Nat) (h h' : Bs) (k : Nat) (b : List E), lookB (mergeB f h h') k = some b → lookB h k = some b ∧ lookB h' k = some b
  | 0, h, h', k, b, hl => by simp [mergeB, lookB] at hl
  | f + 1, [], h', k, b, hl => by simp [mergeB, lookB] at hl
  | f + 1, (j, x) :: r, [], k, b, hl => by simp [mergeB, lookB] at hl
  | f + 1, (j, x) :: r, (j', y) :: r', k, b, hl => by
    simp only [mergeB] at hl
    cases hj : Nat.beq j j' with
    | true =>
      rw [hj] at hl
      simp only [cond_true] at hl
      have hjj := Nat.eq_of_beq_eq_true hj
      subst hjj
      cases hs : sameE x y with
      | true =>
        rw [hs] at hl
        simp only [cond_true, lookB] at hl ⊢
        have := sameE_eq hs
        subst this
        cases hk : Nat.beq j k with
        | true => rw [hk] at hl; simp only [cond_true] at hl ⊢; exact ⟨hl, hl⟩
        | false => rw [hk] at hl; simp only [cond_false] at hl ⊢; exact mergeB_look f r r' k b hl
      | false =>
        rw [hs] at hl
        simp only [cond_false] at hl
        rw [lookB_delB] at hl
        split at hl
        · cases hl
        · rename_i hne
          have hk : Nat.beq j k = false := by rw [beq_eq]; simp [Ne.symm hne]
          simp only [lookB, hk, cond_false]
          exact mergeB_look f r r' k b hl
    | false =>
      rw [hj] at hl
      simp only [cond_false] at hl
      cases hb : Nat.ble j j' with
      | true =>
        rw [hb] at hl
        simp only [cond_true] at hl
        rw [lookB_delB] at hl
        split at hl
        · cases hl
        · rename_i hne
          have hk : Nat.beq j' k = false := by rw [beq_eq]; simp [Ne.symm hne]
          obtain ⟨g1, g2⟩ := mergeB_look f ((j, x) :: r) r' k b hl
          refine ⟨g1, ?_⟩
          simp only [lookB, hk, cond_false]; exact g2
      | false =>
        rw [hb] at hl
        simp only [cond_false] at hl
        rw [lookB_delB] at hl
        split at hl
        · cases hl
        · rename_i hne
          have hk : Nat.beq j k = false := by rw [beq_eq]; simp [Ne.symm hne]
          obtain ⟨g1, g2⟩ := mergeB_look f r ((j', y) :: r') k b hl
          refine ⟨?_, g2⟩
          simp only [lookB, hk, cond_false]; exact g1

theorem cOf_mono {a b : Nat} (h : a ≤ b) (d : Nat) : cOf a d ≤ cOf b d := by
  simp only [cOf]; split <;> omega

theorem hOf_mono {h h' : Bs} (hs : ∀ k b, lookB h' k = some b → lookB h k = some b) (id : Id) (b : Blk) (hb : hOf h' id = some b) : hOf h id = some b := by
  simp only [hOf] at hb ⊢
  split at hb
  · rename_i h0
    simp only [Option.map_eq_some_iff] at hb
    obtain ⟨x, hx, rfl⟩ := hb
    rw [if_pos h0, hs _ _ hx]; rfl
  · cases hb

theorem mergeD_goes {k0 : Nat → Nat} {s s' : DS} : Goes k0 s.st (mergeD s s').st ∧ Goes k0 s'.st (mergeD s s').st := by
  constructor
  · refine Goes.weaken (fun t => ?_) (hOf_mono fun k b hb => (mergeB_look _ _ _ k b hb).1) (cOf_mono (Nat.le_max_left ..))
    rcases Tr.merge_get s.env s'.env t with h | h
    · exact .inr h
    · exact .inl h.1
  · refine Goes.weaken (fun t => ?_) (hOf_mono fun k b hb => (mergeB_look _ _ _ k b hb).2) (cOf_mono (Nat.le_max_right ..))
    rcases Tr.merge_get s.env s'.env t with h | h
    · exact .inr h
    · exact .inl h.2

theorem mergeD_ext {s s1 s2 : DS} (h : Ext s s1) : Ext s (mergeD s1 s2) :=
  ⟨Nat.le_trans h.1 (Nat.le_max_left ..), fun k hk => by
    cases hl : lookB (mergeD s1 s2).heap k with
    | none => exact absurd hl hk
    | some b => exact h.2 k (by rw [(mergeB_look _ _ _ k b hl).1]; simp)⟩

/-! ### slices given up -/
theorem flatE_conv {h : Heap} {ok : Id → Prop} {e : E} {x : P} (he : flatE e = some x) : Conv h ok e (.p x) := by
  unfold flatE at he
  split at he
  · injection he with he; subst he; exact .refl _
  · injection he with he; subst he; exact .nil 0
  · cases he

theorem flatEs_conv {h : Heap} {ok : Id → Prop} : ∀ {es : List E} {xs : List P}, flatEs es = some xs → es.length = xs.length ∧ ∀ (j : Nat) (h1 : j < es.length) (h2 : j < xs.length), Conv h ok es[j] (.p xs[j])
  | [], xs, he => by simp [flatEs] at he; subst he; exact ⟨rfl, fun j h1 _ => by simp at h1⟩
  | e :: r, xs, he => by
    simp only [flatEs] at he
    split at he
    · rename_i x ys hx hy
      injection he with he; subst he
      obtain ⟨g1, g2⟩ := flatEs_conv (h := h) (ok := ok) hy
      refine ⟨by simp [g1], fun j h1 h2 => ?_⟩
      cases j with
      | zero => exact flatE_conv hx
      | succ j => exact g2 j (by simpa using h1) (by simpa using h2)
    · cases he

theorem freezeSlot_ok {k0 : Nat → Nat} {s : DS} {t : Tmp} : Ext s (freezeSlot s t) ∧ Goes k0 s.st (freezeSlot s t).st := by
  have same : Ext s s ∧ Goes k0 s.st s.st := ⟨Ext.refl, Goes.refl⟩
  unfold freezeSlot
  split
  · rename_i id sz off len ht
    split
    · rename_i cells hl
      cases hc : (decide (0 < sz ∧ off + len * sz ≤ cells.length) && Nat.blt t 1000000) with
      | false => exact same
      | true =>
        simp only [cond_true]
        simp only [Bool.and_eq_true, decide_eq_true_eq] at hc
        obtain ⟨⟨hsz, hfit⟩, hlt⟩ := hc
        split
        · rename_i ps hps
          have hd : dstIn (some t) = true := by
            have : t < 1000000 := Nat.le_of_ble_eq_true hlt
            exact decide_eq_true this
          refine ⟨⟨Nat.le_refl _, fun k hk => .inl ?_⟩, ?_⟩
          · rw [lookB_delB] at hk
            split at hk
            · exact absurd rfl hk
            · exact hk
          · have hb : s.st.heap id = some ⟨true, cells⟩ := by show hOf s.heap id = _; rw [lookD_h, hl]; rfl
            obtain ⟨g1, g2⟩ := flatEs_conv (h := updI s.st.heap id (some (Blk.mk false cells))) (ok := fun i => ∃ b, updI s.st.heap id (some (Blk.mk false cells)) i = some b ∧ b.excl = false) hps
            have hlen : ps.length = len * sz := by rw [← g1]; simp; omega
            have hb' : updI s.st.heap id (some (Blk.mk false cells)) id = some ⟨false, cells⟩ := by simp [updI]
            have e1 : Goes k0 s.st { s.st with heap := updI s.st.heap id (some ⟨false, cells⟩) } := Goes.share hb
            have e2 : Goes k0 { s.st with heap := updI s.st.heap id (some ⟨false, cells⟩) } (St.set { s.st with heap := updI s.st.heap id (some ⟨false, cells⟩) } (some t) (.p (.list sz ps))) := by
              refine Goes.conv ?_
              have ht' : s.st.env t = .sl id sz off len := ht
              simp only [ht']
              refine Conv.sl hb' ⟨_, hb', rfl⟩ hsz hfit hlen fun j h1 h2 => ?_
              have := g2 j (by rw [g1]; exact h1) h1
              simpa using this
            refine (e1.trans e2).trans (Goes.weaken (fun t' => .inl ?_) (fun i b hib => ?_) fun _ => Nat.le_refl _)
            · have := put_st (s := { s with heap := delB s.heap id.2 }) (d := some t) (e := .p (.list sz ps)) hd
              have := congrArg (fun q => q.env t') this
              exact this
            · have hib' : hOf (delB s.heap id.2) i = some b := hib
              rw [hOf_delB (lookD_zero hl).1] at hib'
              rw [set_heap]
              simp only [updI] at hib' ⊢
              split at hib'
              · cases hib'
              · rename_i hne; rw [if_neg hne]; exact hib'
        · exact same
    · exact same
  · exact same

theorem freezeD_ok {k0 : Nat → Nat} : ∀ (l : List Oper) (s : DS), Ext s (freezeD s l) ∧ Goes k0 s.st (freezeD s l).st := by
  have hop : ∀ (o : Oper) (s : DS), Ext s (freezeOp s o) ∧ Goes k0 s.st (freezeOp s o).st := by
    intro o s
    unfold freezeOp
    generalize o.op.operands.toList = xs
    induction xs generalizing s with
    | nil => exact ⟨Ext.refl, Goes.refl⟩
    | cons x xs ih =>
      simp only [List.foldl_cons]
      cases x with
      | tmp t =>
        obtain ⟨g1, g2⟩ := freezeSlot_ok (k0 := k0) (s := s) (t := t)
        obtain ⟨e1, e2⟩ := ih (freezeSlot s t)
        exact ⟨g1.trans e1, g2.trans e2⟩
      | const v => exact ih s
      | global g => exact ih s
      | func f => exact ih s
  intro l
  induction l with
  | nil => intro s; exact ⟨Ext.refl, Goes.refl⟩
  | cons o l ih =>
    intro s
    obtain ⟨g1, g2⟩ := hop o s
    obtain ⟨e1, e2⟩ := ih (freezeOp s o)
    exact ⟨g1.trans e1, g2.trans e2⟩

end Go.Vm
