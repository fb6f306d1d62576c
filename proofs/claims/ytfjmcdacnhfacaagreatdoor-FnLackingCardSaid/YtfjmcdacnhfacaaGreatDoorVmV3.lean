/- The interpreter: regions that draw, code, functions. No condition. -/
import Derived.Test.YtfjmcdacnhfacaaGreatDoorVmV2b
set_option linter.all false
namespace Go.Vm
open Go

theorem SpecAt.mono {P : Program} {f : FuncId} {h0 : Heap} {args : List E} {Q Q' : Heap → (Nat → Nat) → E → Prop} {cnt : Nat → Nat} (h : SpecAt P f h0 args Q cnt) (hq : ∀ h1 c r, Q h1 c r → Q' h1 c r) : SpecAt P f h0 args Q' cnt := by
  intro w A φ cs hh hex hsz hrep
  refine (h w A φ cs hh hex hsz hrep).mono ?_
  rintro e w' ⟨v, cnt', φ', h1, r, he, hQ, rest⟩
  exact ⟨v, cnt', φ', h1, r, he, hq _ _ _ hQ, rest⟩

theorem hOf_nil : hOf [] = noHeap := by
  funext id; simp only [hOf, lookB, noHeap, Option.map_none]; split <;> rfl
theorem cOf_zero : cOf 0 = lookC [] := by
  funext d; simp only [cOf, lookC]; split <;> rfl

section
variable {h : Bs} {ok : Id → Prop}

mutual
theorem plainE_conv (hok : ∀ id, ok id) : ∀ (f : Nat) (e : E) (x : P), plainE h f e = some x → Conv (hOf h) ok e (.p x)
  | 0, e, x, he => by simp [plainE] at he
  | f + 1, .p y, x, he => by simp [plainE] at he; subst he; exact .refl _
  | f + 1, .nil, x, he => by simp [plainE] at he; subst he; exact .nil 0
  | f + 1, .sl id sz off len, x, he => by
    simp only [plainE] at he
    split at he
    · rename_i cells hl
      split at he
      · rename_i hc
        simp only [Option.map_eq_some_iff] at he
        obtain ⟨xs, hx, rfl⟩ := he
        obtain ⟨g1, g2⟩ := plainEs_conv hok f _ xs hx
        have hlen : xs.length = len * sz := by rw [← g1]; simp; omega
        refine .sl (blk := ⟨true, cells⟩) (by rw [lookD_h, hl]; rfl) (hok id) hc.1 hc.2 hlen fun j h1 h2 => ?_
        have := g2 j (by rw [g1]; exact h1) h1
        simpa using this
      · cases he
    · cases he
  | f + 1, .agg cs, x, he => by
    simp only [plainE, Option.map_eq_some_iff] at he
    obtain ⟨xs, hx, rfl⟩ := he
    obtain ⟨g1, g2⟩ := plainEs_conv hok f cs xs hx
    exact .aggp g1 g2
  | f + 1, .ptr _ _, x, he => by simp [plainE] at he
  | f + 1, .pp _, x, he => by simp [plainE] at he
  | f + 1, .tup _, x, he => by simp [plainE] at he
  | f + 1, .fn _ _, x, he => by simp [plainE] at he
  | f + 1, .dead, x, he => by simp [plainE] at he
theorem plainEs_conv (hok : ∀ id, ok id) : ∀ (f : Nat) (es : List E) (xs : List P), plainEs h f es = some xs → es.length = xs.length ∧ ∀ (j : Nat) (h1 : j < es.length) (h2 : j < xs.length), Conv (hOf h) ok es[j] (.p xs[j])
  | 0, es, xs, he => by simp [plainEs] at he
  | f + 1, [], xs, he => by simp [plainEs] at he; subst he; exact ⟨rfl, fun j h1 _ => by simp at h1⟩
  | f + 1, e :: r, xs, he => by
    simp only [plainEs] at he
    split at he
    · rename_i x ys hx hy
      injection he with he; subst he
      obtain ⟨g1, g2⟩ := plainEs_conv hok f r ys hy
      refine ⟨by simp [g1], fun j h1 h2 => ?_⟩
      cases j with
      | zero => exact plainE_conv hok f e x hx
      | succ j => exact g2 j (by simpa using h1) (by simpa using h2)
    · cases he
end

theorem plainArg_conv (hok : ∀ id, ok id) {e r : E} (he : plainArg h e = some r) : Conv (hOf h) ok e r := by
  unfold plainArg at he
  cases hn : e.noRef with
  | true => rw [hn] at he; simp only [cond_true, Option.some.injEq] at he; subst he; exact .refl _
  | false =>
    rw [hn] at he
    simp only [cond_false] at he
    split at he
    · simp only [Option.map_eq_some_iff] at he
      obtain ⟨x, hx, rfl⟩ := he
      exact plainE_conv hok _ _ _ hx
    · simp only [Option.map_eq_some_iff] at he
      obtain ⟨x, hx, rfl⟩ := he
      exact plainE_conv hok _ _ _ hx
    · cases he

theorem mapM_conv (hok : ∀ id, ok id) : ∀ {es xs : List E}, es.mapM (plainArg h) = some xs → ConvL (hOf h) ok es xs
  | [], xs, he => by simp at he; subst he; exact ⟨rfl, fun j h1 _ => by simp at h1⟩
  | e :: r, xs, he => by
    simp only [List.mapM_cons, Option.bind_eq_bind, Option.bind_eq_some_iff] at he
    obtain ⟨x, hx, ys, hy, he⟩ := he
    simp at he; subst he
    obtain ⟨g1, g2⟩ := mapM_conv hok hy
    refine ⟨by simp [g1], fun j h1 h2 => ?_⟩
    cases j with
    | zero => exact plainArg_conv hok hx
    | succ j => exact g2 j (by simpa using h1) (by simpa using h2)
end

section
variable {P : Program} {ops : Array Oper} {call : CallD} {s s' : DS} {o : Oper} {n : Nat}

theorem CallOk.quiet (hc : CallOk P call) {g : FuncId} {xs : List E} {r : E} {c' : Nat} (hx : noRefs xs = true) (hr : r.noRef = true) (h : call g xs [] 0 = some (r, [], c')) : Callable P g ∧ Spec P g noHeap xs fun _ r' => r' = r := by
  obtain ⟨c1, _, _, c4⟩ := hc.ok _ _ _ _ _ _ _ h
  rw [hOf_nil, cOf_zero] at c4
  refine ⟨c1, ?_⟩
  have := Spec.of_zero (Q := fun h1 r' => h1 = noHeap ∧ r' = r) hx (fun h1 r' hq => ⟨hq.1, by rw [hq.2]; exact hr⟩) (c4.mono fun h1 c r' hq => ⟨hq.1, hq.2.2⟩)
  exact fun cnt => (this cnt).mono fun _ _ _ hq => hq.2

theorem quietD_sound (hc : CallOk P call) {f : Operand} {args : Array Operand} {types : Array TypeId} {g : FuncId} {caps : List E} {k : Kd} {r : E} (hop : o.op = .call { callee := .value f, args, argTypes := types }) (hf : s.val f = .fn g caps)
    (hw : wantedD ops s o = some true) (he : quietD call s g (args.toList.map s.val ++ caps) = some (k, r)) : StepK P ops k o s.st (s.st.set o.dst r) := by
  have hwe : wantedE ops s.st o = some true := by rw [wantedD_st]; exact hw
  have hca : callArgs s.st args caps = args.toList.map s.val ++ caps := by unfold callArgs; rw [val_st]
  unfold quietD at he
  cases hn : noRefs (args.toList.map s.val ++ caps) with
  | true =>
    rw [hn] at he
    simp only [cond_true] at he
    split at he
    · rename_i r1 c1 hcall
      cases hr : r1.noRef with
      | false => rw [hr] at he; cases he
      | true =>
        rw [hr] at he
        simp only [cond_true, Option.some.injEq, Prod.mk.injEq] at he
        obtain ⟨rfl, rfl⟩ := he
        obtain ⟨q1, q2⟩ := hc.quiet hn hr hcall
        exact .qs hwe ⟨f, args, types, g, caps, callArgs s.st args caps, hop, by rw [val_st]; exact hf, q1, ⟨rfl, fun j _ _ => .refl _⟩, by rw [hca]; exact hn, hr, by rw [hca]; exact q2⟩
    · cases he
  | false =>
    rw [hn] at he
    simp only [cond_false] at he
    split at he
    · rename_i xs hxs
      split at he
      · rename_i r1 c1 hcall
        cases hb : (r1.noRef && r1.scalar && noRefs xs) with
        | false => rw [hb] at he; cases he
        | true =>
          rw [hb] at he
          simp only [cond_true, Option.some.injEq, Prod.mk.injEq] at he
          obtain ⟨rfl, rfl⟩ := he
          simp only [Bool.and_eq_true] at hb
          obtain ⟨q1, q2⟩ := hc.quiet hb.2 hb.1.1 hcall
          exact .qr hwe ⟨f, args, types, g, caps, xs, hop, by rw [val_st]; exact hf, q1, by rw [hca]; exact mapM_conv (fun id => .inl hb.1.2) hxs, hb.2, hb.1.1, q2⟩
      · cases he
    · cases he

theorem kopD_sound (hc : CallOk P call) (hd : dstIn o.dst = true) (hw : wantedD ops s o = some true) {k : Kd} (he : kopD P call s o = some (k, s')) : StepK P ops k o s.st s'.st ∧ Ext s s' := by
  unfold kopD at he
  split at he
  · rename_i t x v hop
    simp only [Option.map_eq_some_iff, Prod.mk.injEq] at he
    obtain ⟨s1, h1, rfl, rfl⟩ := he
    exact writeD_wb hd hw h1 (.inl ⟨t, x, v, hop⟩)
  · rename_i f args types hop
    split at he
    · rename_i g caps hf
      split at he
      · rename_i k1 r hq
        simp only [Option.some.injEq, Prod.mk.injEq] at he
        obtain ⟨rfl, rfl⟩ := he
        rw [put_st hd]
        exact ⟨quietD_sound hc hop hf hw hq, Ext.put Ext.refl⟩
      · cases he
    · cases he
  · rename_i args types hop
    simp only [Option.map_eq_some_iff, Prod.mk.injEq] at he
    obtain ⟨s1, h1, rfl, rfl⟩ := he
    exact writeD_wb hd hw h1 (.inr (.inl ⟨args, types, hop⟩))
  · rename_i args types hop
    simp only [Option.map_eq_some_iff, Prod.mk.injEq] at he
    obtain ⟨s1, h1, rfl, rfl⟩ := he
    exact writeD_wb hd hw h1 (.inr (.inr ⟨args, types, hop⟩))
  · have new : (newD P s o).map (Kd.a, ·) = some (k, s') → StepK P ops k o s.st s'.st ∧ Ext s s' := fun hn => by
      simp only [Option.map_eq_some_iff, Prod.mk.injEq] at hn
      obtain ⟨s1, h1, rfl, rfl⟩ := hn
      exact newD_step hd hw h1
    cases hA : isA o.op with
    | true => rw [hA] at he; exact new he
    | false =>
      rw [hA] at he
      simp only [cond_false] at he
      split at he
      · rename_i e hev
        simp only [Option.some.injEq, Prod.mk.injEq] at he
        obtain ⟨rfl, rfl⟩ := he
        exact ⟨valD_step0 hd hw hev, Ext.put Ext.refl⟩
      · split at he
        · rename_i e hev
          simp only [Option.some.injEq, Prod.mk.injEq] at he
          obtain ⟨rfl, rfl⟩ := he
          refine ⟨?_, Ext.put Ext.refl⟩
          rw [put_st hd]
          exact .rb (by rw [wantedD_st]; exact hw) (by rw [val_st]; exact hev)
        · split at he
          · rename_i e hev
            simp only [Option.some.injEq, Prod.mk.injEq] at he
            obtain ⟨rfl, rfl⟩ := he
            exact ⟨valD_step hd hw hev, Ext.put Ext.refl⟩
          · exact new he

theorem drawD_sound (hc : CallOk P call) : ∀ (l : List Oper) (i : Nat) (s s' : DS) (ks : List Kd), ops.toList.drop i = l → (∀ o ∈ l, dstIn o.dst = true) → drawD P call ops l s = some (ks, s') →
    Ext s s' ∧ ∀ kf : Nat → Kd, (∀ j k, ks[j]? = some k → kf (i + j) = k) → Chain P ops kf (List.range' i l.length) s.st s'.st
  | [], i, s, s', ks, _, _, he => by
    simp only [drawD, Option.some.injEq, Prod.mk.injEq] at he
    obtain ⟨rfl, rfl⟩ := he
    exact ⟨Ext.refl, fun kf _ => .nil⟩
  | o :: l, i, s, s', ks, hdr, hd, he => by
    have hdo := hd o (List.mem_cons_self ..)
    have hdl : ∀ o ∈ l, dstIn o.dst = true := fun o ho => hd o (List.mem_cons_of_mem _ ho)
    have hi : ops[i]? = some o := by
      have h1 : ops.toList[i]? = some o := by
        have := congrArg List.head? hdr
        rw [List.head?_drop] at this; simpa using this
      simpa using h1
    have hdr' : ops.toList.drop (i + 1) = l := by
      have := congrArg List.tail hdr
      simpa [List.tail_drop] using this
    simp only [drawD] at he
    split at he
    · rename_i hw
      split at he
      · rename_i k s1 h1
        simp only [Option.map_eq_some_iff, Prod.mk.injEq] at he
        obtain ⟨⟨ks1, s2⟩, h2, rfl, rfl⟩ := he
        obtain ⟨g1, e1⟩ := kopD_sound hc hdo hw h1
        obtain ⟨e2, g2⟩ := drawD_sound hc l (i + 1) s1 s2 ks1 hdr' hdl h2
        refine ⟨e1.trans e2, fun kf hk => ?_⟩
        rw [List.length_cons, List.range'_succ]
        refine .cons hi (s1 := s1.st) ?_ (g2 kf fun j k' hj => ?_)
        · have := hk 0 k (by simp)
          rw [Nat.add_zero] at this
          rw [this]; exact g1
        · have := hk (j + 1) k' (by simpa using hj)
          rw [← this]; congr 1; omega
      · cases he
    · rename_i hw
      simp only [Option.map_eq_some_iff, Prod.mk.injEq] at he
      obtain ⟨⟨ks1, s2⟩, h2, rfl, rfl⟩ := he
      obtain ⟨e2, g2⟩ := drawD_sound hc l (i + 1) _ s2 ks1 hdr' hdl h2
      refine ⟨Ext.trans (Ext.put Ext.refl) e2, fun kf hk => ?_⟩
      rw [List.length_cons, List.range'_succ]
      refine .cons hi (s1 := (s.put o.dst (.tup [])).st) ?_ (g2 kf fun j k' hj => ?_)
      · rw [put_st hdo]
        exact .skip (by rw [wantedD_st]; exact hw)
      · have := hk (j + 1) k' (by simpa using hj)
        rw [← this]; congr 1; omega
    · cases he

/-! ### code -/
def X.exit : X → Exit
  | .norm => .normal
  | .ex id => .exit id
  | .ret => .ret

def codeIn (n : Nat) : Code → Bool
  | .region _ ops _ => ops.toList.all fun o => opIn n ops o && dstIn o.dst
  | .seq a b => codeIn n a && codeIn n b
  | .cond c a b => inSlots n c && codeIn n a && codeIn n b
  | .block _ c => codeIn n c
  | .loop c => codeIn n c
  | _ => true

/-- The state in which the bool's cell holds x. -/
def choiceSt (s : DS) (p : Tmp) (x : E) : St := ⟨upd s.env.get p (.ptr (0, s.c) 0), updI (hOf s.heap) (0, s.c) (some ⟨true, [x]⟩), upd (cOf s.c) 0 (s.c + 1)⟩

theorem choice_awp (hm : P.follows .mixedOrders = true) {k0 : Nat → Nat} {a : Code} {p d : Tmp} (h : choiceOf P n a = some (p, d)) :
    AWP P n k0 a (fun e s1 => e = .normal ∧ ∃ b : Bool, Goes k0 s1 (DS.put (DS.put { s with c := s.c + 1 } (some p) .dead) (some d) (.p (.bool b))).st) s.st := by
  unfold choiceOf at h
  split at h
  rotate_left
  · cases h
  rename_i id ops mix
  cases mix with
  | false => simp at h
  | true =>
  cases hsz : Nat.beq ops.size 4 with
  | false => simp [hsz] at h
  | true =>
  simp only [hsz, Bool.and_self, cond_true] at h
  unfold choiceD at h
  split at h
  rotate_left
  · cases h
  rename_i p0 t ty0 ps0 af0 t1 p1 b1 ty1 ps1 af1 t2 p2 b2 ty2 ps2 af2 d0 t3 p3 ty3 ps3 af3 hl
  generalize hcond : (_ && readyIs ops [true, true, true, true] []) = cnd at h
  cases cnd with
  | false => cases h
  | true =>
  simp only [cond_true, Option.some.injEq, Prod.mk.injEq] at h
  obtain ⟨rfl, rfl⟩ := h
  simp only [Bool.and_eq_true, decide_eq_true_eq, readyIs] at hcond
  obtain ⟨⟨⟨⟨⟨⟨⟨⟨⟨⟨⟨⟨⟨⟨⟨⟨hz, hs1⟩, hs2⟩, hs3⟩, ha3⟩, hp1⟩, hp2⟩, hp3⟩, hpn⟩, hp6⟩, hd6⟩, r0⟩, r1⟩, r2⟩, r3⟩, r4⟩, r5⟩ := hcond
  have hp1 := Nat.eq_of_beq_eq_true hp1
  have hp2 := Nat.eq_of_beq_eq_true hp2
  have hp3 := Nat.eq_of_beq_eq_true hp3
  subst hp1; subst hp2; subst hp3
  have hpn : p0 < n := Nat.le_of_ble_eq_true hpn
  have hp6 : p0 < 1000000 := Nat.le_of_ble_eq_true hp6
  have hd6 : d0 < 1000000 := Nat.le_of_ble_eq_true hd6
  obtain ⟨z, hz⟩ : ∃ z, tZero P t = some [.p (.bool z)] := by
    split at hz
    · rename_i z hz'; exact ⟨z, hz'⟩
    · cases hz
  generalize ho0 : (⟨some p0, .alloc t, ty0, ps0, af0, none⟩ : Oper) = o0 at *
  generalize ho1 : (⟨none, .store t1 (.tmp p0) (.const (.bool b1)), ty1, ps1, af1, none⟩ : Oper) = o1 at *
  generalize ho2 : (⟨none, .store t2 (.tmp p0) (.const (.bool b2)), ty2, ps2, af2, none⟩ : Oper) = o2 at *
  generalize ho3 : (⟨some d0, .load t3 (.tmp p0), ty3, ps3, af3, none⟩ : Oper) = o3 at *
  have hi0 : ops[0]? = some o0 := by rw [← Array.getElem?_toList, hl]; rfl
  have hi1 : ops[1]? = some o1 := by rw [← Array.getElem?_toList, hl]; rfl
  have hi2 : ops[2]? = some o2 := by rw [← Array.getElem?_toList, hl]; rfl
  have hi3 : ops[3]? = some o3 := by rw [← Array.getElem?_toList, hl]; rfl
  have hsize : ops.size = 4 := Nat.eq_of_beq_eq_true hsz
  have q0 : opIn n ops o0 = true := by subst ho0; simp [opIn, Op.operands]
  have q1 : opIn n ops o1 = true := by subst ho1; simp [opIn, Op.operands, inSlots, hpn]
  have q2 : opIn n ops o2 = true := by subst ho2; simp [opIn, Op.operands, inSlots, hpn]
  have q3 : opIn n ops o3 = true := by subst ho3; simp [opIn, Op.operands, inSlots, hpn]
  have hc0 : s.st.cnt 0 = s.c := by simp [DS.st, cOf]
  have k0' : StepK P ops .a o0 s.st (choiceSt s p0 (.p (.bool z))) := by
    subst ho0
    have := StepK.a (P := P) (ops := ops) (o := ⟨some p0, .alloc t, ty0, ps0, af0, none⟩) (s := s.st) (nm := 0) rfl (cs := [.p (.bool z)]) (mk := fun id => .ptr id 0) (by simp [evalA, hz])
    have e : (St.newBlk s.st 0 [.p (.bool z)]).set (some p0) (.ptr (0, s.st.cnt 0) 0) = choiceSt s p0 (.p (.bool z)) := by
      simp only [hc0, St.newBlk, St.set, choiceSt, DS.st]
      simp [cOf]
    rw [← e]; exact this
  have hval : ∀ x, (choiceSt s p0 x).val (.tmp p0) = .ptr (0, s.c) 0 := fun x => by simp [choiceSt, St.val, upd]
  have hheap : ∀ x, (choiceSt s p0 x).heap (0, s.c) = some ⟨true, [x]⟩ := fun x => by simp [choiceSt, updI]
  have hst : ∀ (tt : TypeId) (b : Bool) (x : E), tSize P tt = some 1 → storeE P tt (choiceSt s p0 x) (.ptr (0, s.c) 0) (.p (.bool b)) = some (choiceSt s p0 (.p (.bool b))) := by
    intro tt b x ht
    simp only [storeE, E.cells, hheap, ht, List.length_singleton, if_true, Nat.zero_add, Nat.le_refl, and_self]
    congr 1
    simp only [choiceSt, setRange]
    congr 1
    funext i
    simp only [updI]
    split <;> simp
  have k1' : ∀ x, StepK P ops .w o1 (choiceSt s p0 x) (choiceSt s p0 (.p (.bool b1))) := fun x => by
    subst ho1
    refine .w (nm := 0) rfl ?_
    unfold evalW
    simp only [hval]
    have := hst t1 b1 x hs1
    simp only [St.val, absV, absV1, this, Option.map_some, St.set]
  have k2' : ∀ x, StepK P ops .w o2 (choiceSt s p0 x) (choiceSt s p0 (.p (.bool b2))) := fun x => by
    subst ho2
    refine .w (nm := 0) rfl ?_
    unfold evalW
    simp only [hval]
    have := hst t2 b2 x hs2
    simp only [St.val, absV, absV1, this, Option.map_some, St.set]
  have k3' : ∀ b : Bool, StepK P ops .r o3 (choiceSt s p0 (.p (.bool b))) ((choiceSt s p0 (.p (.bool b))).set (some d0) (.p (.bool b))) := fun b => by
    subst ho3
    refine .vr rfl ?_
    simp only [evalV, evalS, hval, loadE, ha3, hs3, hheap]
    rfl
  intro C a w hk ha hs
  have hB : ∀ id b, hOf s.heap id = some b → id.2 < cOf s.c id.1 := by
    obtain ⟨φ, hs⟩ := hs
    exact fun id b hb => (hs.heap.blk id b hb).below
  have hgo : ∀ b : Bool, Goes k0 ((choiceSt s p0 (.p (.bool b))).set (some d0) (.p (.bool b))) (DS.put (DS.put { s with c := s.c + 1 } (some p0) .dead) (some d0) (.p (.bool b))).st := by
    intro b
    have hdd : dstIn (some d0) = true := decide_eq_true hd6
    have hdp : dstIn (some p0) = true := decide_eq_true hp6
    rw [put_st hdd, put_st hdp]
    refine Goes.weaken (fun t => ?_) (fun id bk hb => ?_) fun dd => ?_
    · simp only [St.set, choiceSt, DS.st, upd]
      by_cases h1 : t = d0
      · left; rw [if_pos h1, if_pos h1]
      · by_cases h2 : t = p0
        · right; rw [if_neg h1, if_pos h2]
        · left; rw [if_neg h1, if_neg h1, if_neg h2, if_neg h2]
    · have hb' : hOf s.heap id = some bk := by simpa [St.set, DS.st] using hb
      have := hB id bk hb'
      simp only [St.set, choiceSt, updI]
      rw [if_neg (fun he => by subst he; simp [cOf] at this)]
      exact hb'
    · simp only [St.set, choiceSt, DS.st, cOf, upd]
      by_cases h1 : dd = 0 <;> simp [h1]
  have hs' : Sim C s.st a { w with drawn := w.drawn + 1 } := by
    obtain ⟨φ, hs⟩ := hs
    have hkk : Keeps (Ok C s.st.heap φ) w (Ok C s.st.heap φ) { w with drawn := w.drawn + 1 } := fun b arr T fr hb => ⟨arr, fr, hb, rfl, fun i hi => ⟨hi, rfl⟩⟩
    exact ⟨φ, hs.evolve (h' := s.st.heap) (cnt' := s.st.cnt) (φ' := φ) (fun _ => Nat.le_refl _) (fun _ _ => rfl) hkk
      ⟨fun id b hb => (hs.heap.blk id b hb).mono (fun _ => Nat.le_refl _) (fun _ _ => rfl) hkk fun arr T fr hr' => ⟨arr, fr, hr', rfl, fun _ _ q => q, fun _ _ => rfl⟩, hs.heap.inj⟩ (fun _ _ _ => rfl) (Nat.le_refl _) ⟨rfl, rfl⟩⟩
  refine wp_region_any hm ?_
  rw [hsize]
  have e0 : Array.replicate 4 false = [false, false, false, false].toArray := rfl
  have last : ∀ (listed : List Bool) (b : Bool) (a : Act) (w : World), listed.toArray = #[true, true, true, false] → a.tmps.size = n → Sim C (choiceSt s p0 (.p (.bool b))) a w →
      wpAny P .any ops (fun e a' w' => ∃ s', (e = .normal ∧ ∃ b : Bool, Goes k0 s' (DS.put (DS.put { s with c := s.c + 1 } (some p0) .dead) (some d0) (.p (.bool b))).st) ∧ a'.tmps.size = n ∧ Sim C s' a' w') 1 listed.toArray a w := by
    intro listed b a w hlis ha hs
    rw [hlis]
    refine wpAny_all r4 (by simp) fun i hi => ?_
    have hi3' : i = 3 := by simpa using hi
    subst hi3'
    obtain ⟨φ, hs⟩ := hs
    refine (k3' b).sound hi3 q3 ha hs fun a' w' ha' hs' => ?_
    exact wpAny_done r5 ⟨_, ⟨rfl, b, hgo b⟩, ha', hs'⟩ 0
  rw [e0]
  refine wpAny_all r0 (by simp) fun i hi => ?_
  have hi0' : i = 0 := by simpa using hi
  subst hi0'
  obtain ⟨φ, hs'⟩ := hs'
  refine k0'.sound hi0 q0 ha hs' fun a1 w1 ha1 hs1' => ?_
  refine wpAny_all (rs := [1, 2]) r1 (by simp) fun i hi => ?_
  obtain ⟨φ1, hs1'⟩ := hs1'
  have hi12 : i = 1 ∨ i = 2 := by simpa using hi
  rcases hi12 with rfl | rfl
  · refine (k1' _).sound hi1 q1 ha1 hs1' fun a2 w2 ha2 hs2' => ?_
    refine wpAny_all (rs := [2]) r2 (by simp) fun i hi => ?_
    have hi2' : i = 2 := by simpa using hi
    subst hi2'
    obtain ⟨φ2, hs2'⟩ := hs2'
    exact (k2' _).sound hi2 q2 ha2 hs2' fun a3 w3 ha3 hs3' => last [true, true, true, false] b2 a3 w3 rfl ha3 hs3'
  · refine (k2' _).sound hi2 q2 ha1 hs1' fun a2 w2 ha2 hs2' => ?_
    refine wpAny_all (rs := [1]) r3 (by simp) fun i hi => ?_
    have hi1' : i = 1 := by simpa using hi
    subst hi1'
    obtain ⟨φ2, hs2'⟩ := hs2'
    exact (k1' _).sound hi1 q1 ha2 hs2' fun a3 w3 ha3 hs3' => last [true, true, true, false] b1 a3 w3 rfl ha3 hs3'

theorem codeD_both (hm : P.follows .mixedOrders = true) (hc : CallOk P call) : ∀ (f : Nat), (∀ (c : Code) (s s' : DS) (x : X), codeIn n c = true → codeD P call n f c s = some (x, s') →
    Ext s s' ∧ ∀ k0, AWP P n k0 c (fun e s1 => e = x.exit ∧ s1 = s'.st) s.st) ∧
    (∀ (c : Code) (s s' : DS) (x : X), codeIn n c = true → codeD P call n f (.loop c) s = some (x, s') → Ext s s' ∧ ∀ k0, LWP P n k0 c (fun e s1 => e = x.exit ∧ s1 = s'.st) s.st) := by
  intro f
  induction f with
  | zero => exact ⟨fun c s s' x _ he => by simp [codeD] at he, fun c s s' x _ he => by simp [codeD] at he⟩
  | succ f ihf =>
    obtain ⟨ih, ihl⟩ := ihf
    have hloop : ∀ (c : Code) (s s' : DS) (x : X), codeIn n c = true → codeD P call n (f + 1) (.loop c) s = some (x, s') → Ext s s' ∧ ∀ k0, LWP P n k0 c (fun e s1 => e = x.exit ∧ s1 = s'.st) s.st := by
      intro c s s' x hin he
      simp only [codeD] at he
      split at he
      · rename_i s1 h1
        obtain ⟨e1, g1⟩ := ih c s s1 .norm hin h1
        obtain ⟨e2, g2⟩ := ihl c s1 s' x hin he
        exact ⟨e1.trans e2, fun k0 => LWP.more (g1 k0) (g2 k0)⟩
      · rename_i hne
        obtain ⟨e1, g1⟩ := ih c s s' x hin he
        refine ⟨e1, fun k0 => LWP.done ((g1 k0).mono ?_)⟩
        rintro e s2 ⟨rfl, rfl⟩
        cases x with
        | norm => exact absurd he (by intro h; exact hne s' h)
        | ex id => exact ⟨by simp [X.exit], rfl, rfl⟩
        | ret => exact ⟨by simp [X.exit], rfl, rfl⟩
    refine ⟨?_, hloop⟩
    intro c s s' x hin he
    cases c with
    | region id ops mix =>
      simp only [codeIn, List.all_eq_true, Bool.and_eq_true] at hin
      have hd : ∀ o ∈ ops.toList, dstIn o.dst = true := fun o ho => (hin o ho).2
      have hops : ops.all (opIn n ops) = true := Array.all_eq_true_iff_forall_mem.2 fun o ho => (hin o (by simpa using ho)).1
      simp only [codeD] at he
      cases mix with
      | true =>
        simp only [cond_true] at he
        split at he
        · rename_i ks s1 h1
          cases hok : drawOk n ops (fun i => (ks[i]?).getD .w) (masksOf ops) with
          | false => rw [hok] at he; cases he
          | true =>
            rw [hok] at he
            simp only [cond_true, Option.some.injEq, Prod.mk.injEq] at he
            obtain ⟨rfl, rfl⟩ := he
            obtain ⟨e1, g1⟩ := drawD_sound hc _ 0 s s1 ks (by simp) hd h1
            refine ⟨e1, fun k0 => AWP.draw hm hok (s' := s1.st) ?_ ⟨rfl, rfl⟩⟩
            have := g1 (fun i => (ks[i]?).getD .w) fun j k hj => by rw [Nat.zero_add, hj]; rfl
            rw [List.range_eq_range']
            simpa using this
        · split at he
          · rename_i ks s1 h1
            cases hok : drawOk n ops (fun i => (ks[i]?).getD .w) (masksOf ops) with
            | false => rw [hok] at he; cases he
            | true =>
              rw [hok] at he
              simp only [cond_true, Option.some.injEq, Prod.mk.injEq] at he
              obtain ⟨rfl, rfl⟩ := he
              obtain ⟨e1, g1⟩ := drawD_sound hc _ 0 _ s1 ks (by simp) hd h1
              refine ⟨(freezeD_ok (k0 := fun _ => 0) ops.toList s).1.trans e1, fun k0 => AWP.ghost (freezeD_ok ops.toList s).2 (AWP.draw hm hok (s' := s1.st) ?_ ⟨rfl, rfl⟩)⟩
              have := g1 (fun i => (ks[i]?).getD .w) fun j k hj => by rw [Nat.zero_add, hj]; rfl
              rw [List.range_eq_range']
              simpa using this
          · cases he
      | false =>
        simp only [cond_false] at he
        split at he
        · rename_i s1 h1
          simp only [Option.some.injEq, Prod.mk.injEq] at he
          obtain ⟨rfl, rfl⟩ := he
          obtain ⟨e1, g1⟩ := opsD_sound (ops := ops) hc _ s s1 hd h1
          exact ⟨e1, fun k0 => AWP.region hops (g1 k0 (fun s2 => s2 = s1.st) rfl) fun s2 hs2 => ⟨rfl, hs2⟩⟩
        · cases he
    | seq a b =>
      simp only [codeIn, Bool.and_eq_true] at hin
      simp only [codeD] at he
      cases hch : choiceOf P n a with
      | some pd =>
        obtain ⟨p, d⟩ := pd
        rw [hch] at he
        simp only at he
        split at he
        · rename_i x1 s1 x2 s2 h1 h2
          split at he
          · rename_i hx
            subst hx
            simp only [Option.some.injEq, Prod.mk.injEq] at he
            obtain ⟨rfl, rfl⟩ := he
            obtain ⟨e1, g1⟩ := ih b _ s1 _ hin.2 h1
            obtain ⟨e2, g2⟩ := ih b _ s2 _ hin.2 h2
            have e0 : Ext s (DS.put (DS.put { s with c := s.c + 1 } (some p) .dead) (some d) (.p (.bool true))) := Ext.put (s' := DS.put { s with c := s.c + 1 } (some p) .dead) (Ext.put (s' := { s with c := s.c + 1 }) ⟨Nat.le_succ _, fun _ h => .inl h⟩)
            refine ⟨mergeD_ext (e0.trans e1), fun k0 => AWP.seq (AWP.up ((choice_awp hm (k0 := k0) (s := s) hch).mono ?_))⟩
            rintro e s3 ⟨rfl, b, hb⟩
            refine ⟨_, hb, ?_⟩
            cases b with
            | true => exact AWP.up ((g1 k0).mono fun e s4 ⟨q1, q2⟩ => ⟨_, by rw [q2]; exact mergeD_goes.1, q1, rfl⟩)
            | false => exact AWP.up ((g2 k0).mono fun e s4 ⟨q1, q2⟩ => ⟨_, by rw [q2]; exact mergeD_goes.2, q1, rfl⟩)
          · cases he
        · cases he
      | none =>
      rw [hch] at he
      simp only at he
      split at he
      · rename_i s1 h1
        obtain ⟨e1, g1⟩ := ih a s s1 .norm hin.1 h1
        obtain ⟨e2, g2⟩ := ih b s1 s' x hin.2 he
        refine ⟨e1.trans e2, fun k0 => AWP.seq ((g1 k0).mono ?_)⟩
        rintro e s2 ⟨rfl, rfl⟩
        exact g2 k0
      · rename_i hne
        obtain ⟨e1, g1⟩ := ih a s s' x hin.1 he
        refine ⟨e1, fun k0 => AWP.seq ((g1 k0).mono ?_)⟩
        rintro e s2 ⟨rfl, rfl⟩
        cases x with
        | norm => exact absurd he (by intro h; exact hne s' h)
        | ex id => exact ⟨rfl, rfl⟩
        | ret => exact ⟨rfl, rfl⟩
    | cond c a b =>
      simp only [codeIn, Bool.and_eq_true] at hin
      simp only [codeD] at he
      split at he
      · rename_i hv
        obtain ⟨e1, g1⟩ := ih a s s' x hin.1.2 he
        exact ⟨e1, fun k0 => AWP.cond (t := true) (by rw [val_st]; exact hv) hin.1.1 (fun _ => g1 k0) fun h => by cases h⟩
      · rename_i hv
        obtain ⟨e1, g1⟩ := ih b s s' x hin.2 he
        exact ⟨e1, fun k0 => AWP.cond (t := false) (by rw [val_st]; exact hv) hin.1.1 (fun h => by cases h) fun _ => g1 k0⟩
      · cases he
    | block id c =>
      simp only [codeIn] at hin
      simp only [codeD] at he
      split at he
      · rename_i id' s1 h1
        obtain ⟨e1, g1⟩ := ih c s s1 (.ex id') hin h1
        rw [beq_eq, Bool.cond_decide] at he
        by_cases hid : id' = id
        · rw [if_pos hid] at he
          simp only [Option.some.injEq, Prod.mk.injEq] at he
          obtain ⟨rfl, rfl⟩ := he
          refine ⟨e1, fun k0 => AWP.block ((g1 k0).mono ?_)⟩
          rintro e s2 ⟨rfl, rfl⟩
          simp only [inBlockS, X.exit, hid, if_true]
          exact ⟨trivial, trivial⟩
        · rw [if_neg hid] at he
          simp only [Option.some.injEq, Prod.mk.injEq] at he
          obtain ⟨rfl, rfl⟩ := he
          refine ⟨e1, fun k0 => AWP.block ((g1 k0).mono ?_)⟩
          rintro e s2 ⟨rfl, rfl⟩
          simp only [inBlockS, X.exit, hid, if_false]
          exact ⟨trivial, trivial⟩
      · rename_i hne
        obtain ⟨e1, g1⟩ := ih c s s' x hin he
        refine ⟨e1, fun k0 => AWP.block ((g1 k0).mono ?_)⟩
        rintro e s2 ⟨rfl, rfl⟩
        cases x with
        | norm => exact ⟨rfl, rfl⟩
        | ex id' => exact absurd he (by intro h; exact hne id' s' h)
        | ret => exact ⟨rfl, rfl⟩
    | loop c =>
      obtain ⟨e1, g1⟩ := hloop c s s' x (by simpa [codeIn] using hin) he
      exact ⟨e1, fun k0 => (g1 k0).awp⟩
    | exit id =>
      simp only [codeD, Option.some.injEq, Prod.mk.injEq] at he
      obtain ⟨rfl, rfl⟩ := he
      exact ⟨Ext.refl, fun k0 => AWP.exit ⟨rfl, rfl⟩⟩
    | ret =>
      simp only [codeD, Option.some.injEq, Prod.mk.injEq] at he
      obtain ⟨rfl, rfl⟩ := he
      exact ⟨Ext.refl, fun k0 => AWP.ret ⟨rfl, rfl⟩⟩
    | skip =>
      simp only [codeD, Option.some.injEq, Prod.mk.injEq] at he
      obtain ⟨rfl, rfl⟩ := he
      exact ⟨Ext.refl, fun k0 => AWP.skip ⟨rfl, rfl⟩⟩
    | _ => simp [codeD] at he

end
end Go.Vm
