/- Regions in their order, and what code is made of, over abstract states; ghost steps; loops. No condition. -/
import Derived.Test.YtfjmcdacnhfacaaGreatDoorVmN3
import Derived.LoopN
set_option linter.all false
namespace Go.Vm
open Go

/-! ### loops as functions -/
section
variable {σ ρ : Type}

def iter (f : σ → Option (σ ⊕ ρ)) : Nat → σ → Option ρ
  | 0, _ => none
  | n + 1, s => match f s with
    | none => none
    | some (.inl s') => iter f n s'
    | some (.inr r) => some r

theorem iter_mono (f : σ → Option (σ ⊕ ρ)) {r : ρ} : ∀ {n m : Nat} {s : σ}, n ≤ m → iter f n s = some r → iter f m s = some r
  | 0, _, _, _, h => by simp [iter] at h
  | n + 1, 0, _, hle, _ => by omega
  | n + 1, m + 1, s, hle, h => by
    simp only [iter] at h ⊢
    split at h
    · cases h
    · rename_i s' hf; exact iter_mono f (by omega) h
    · exact h

open Classical in
/-- Round for round until there is a result: none where there is none. -/
noncomputable def loopO (f : σ → Option (σ ⊕ ρ)) (s : σ) : Option ρ :=
  if h : ∃ r, ∃ n, iter f n s = some r then some (Classical.choose h) else none

theorem loopO_some {f : σ → Option (σ ⊕ ρ)} {s : σ} {r : ρ} : loopO f s = some r ↔ ∃ n, iter f n s = some r := by
  unfold loopO
  constructor
  · intro h
    split at h
    · rename_i hx
      injection h with h
      rw [← h]
      exact Classical.choose_spec hx
    · cases h
  · rintro ⟨n, hn⟩
    have hx : ∃ r, ∃ n, iter f n s = some r := ⟨r, n, hn⟩
    rw [dif_pos hx]
    obtain ⟨m, hm⟩ := Classical.choose_spec hx
    have h1 := iter_mono f (Nat.le_max_left n m) hn
    have h2 := iter_mono f (Nat.le_max_right n m) hm
    rw [h1] at h2
    exact h2.symm

theorem loopO_eq (f : σ → Option (σ ⊕ ρ)) (s : σ) : loopO f s = match f s with
    | none => none
    | some (.inl s') => loopO f s'
    | some (.inr r) => some r := by
  cases hf : f s with
  | none =>
    simp only
    cases h : loopO f s with
    | none => rfl
    | some r =>
      obtain ⟨n, hn⟩ := loopO_some.1 h
      cases n with
      | zero => simp [iter] at hn
      | succ n => simp [iter, hf] at hn
  | some x =>
    cases x with
    | inl s' =>
      simp only
      cases h : loopO f s' with
      | some r =>
        obtain ⟨n, hn⟩ := loopO_some.1 h
        exact loopO_some.2 ⟨n + 1, by simp [iter, hf, hn]⟩
      | none =>
        cases h' : loopO f s with
        | none => rfl
        | some r =>
          obtain ⟨n, hn⟩ := loopO_some.1 h'
          cases n with
          | zero => simp [iter] at hn
          | succ n =>
            simp only [iter, hf] at hn
            rw [loopO_some.2 ⟨n, hn⟩] at h; cases h
    | inr r =>
      simp only
      exact loopO_some.2 ⟨1, by simp [iter, hf]⟩

end

section
variable {P : Program} {ops : Array Oper} {n : Nat} {k0 : Nat → Nat} {Q : Exit → St → Prop} {s : St} {c x y : Code}

/-- The same frames and worlds are told by the second. -/
def Goes (k0 : Nat → Nat) (s s' : St) : Prop := ∀ (C : Ctx) (a : Act) (w : World), C.cnt0 = k0 → Sim C s a w → Sim C s' a w

theorem Goes.refl {s : St} : Goes k0 s s := fun _ _ _ _ h => h
theorem Goes.trans {s s' s'' : St} (h : Goes k0 s s') (h' : Goes k0 s' s'') : Goes k0 s s'' := fun C a w hc hs => h' C a w hc (h C a w hc hs)

theorem AWP.mono {Q' : Exit → St → Prop} (h : AWP P n k0 c Q s) (hq : ∀ e s, Q e s → Q' e s) : AWP P n k0 c Q' s :=
  fun C a w hc ha hs => wp_mono (h C a w hc ha hs) fun e a' w' ⟨s', h1, h2⟩ => ⟨s', hq _ _ h1, h2⟩

theorem AWP.ghost {s' : St} (hg : Goes k0 s s') (h : AWP P n k0 c Q s') : AWP P n k0 c Q s :=
  fun C a w hc ha hs => h C a w hc ha (hg C a w hc hs)

/-- Up to ghost steps. -/
def Up (k0 : Nat → Nat) (Q : Exit → St → Prop) : Exit → St → Prop := fun e s => ∃ s', Goes k0 s s' ∧ Q e s'

theorem AWP.up (h : AWP P n k0 c (Up k0 Q) s) : AWP P n k0 c Q s :=
  fun C a w hc ha hs => wp_mono (h C a w hc ha hs) fun e a' w' ⟨s', ⟨s2, h1, h2⟩, h3, h4⟩ => ⟨s2, h2, h3, h1 C a' w' hc h4⟩

def thenS (K : St → Prop) (Q : Exit → St → Prop) : Exit → St → Prop
  | .normal, s => K s
  | e, s => Q e s

theorem AWP.seq (h : AWP P n k0 x (thenS (fun s => AWP P n k0 y Q s) Q) s) : AWP P n k0 (.seq x y) Q s := by
  intro C a w hc ha hs
  refine wp_seq (wp_mono (h C a w hc ha hs) ?_)
  rintro e a' w' ⟨s', h1, h2, h3⟩
  cases e with
  | normal => exact h1 C a' w' hc h2 h3
  | _ => exact ⟨s', h1, h2, h3⟩

theorem AWP.seq_mid (J : St → Prop) (h : AWP P n k0 x (thenS J Q) s) (h' : ∀ s, J s → AWP P n k0 y Q s) : AWP P n k0 (.seq x y) Q s :=
  AWP.seq (h.mono fun e s hq => by cases e <;> first | exact h' _ hq | exact hq)

theorem AWP.cond {c : Operand} {t : Bool} (hc : s.val c = .p (.bool t)) (hin : inSlots n c = true) (h1 : t = true → AWP P n k0 x Q s) (h2 : t = false → AWP P n k0 y Q s) : AWP P n k0 (.cond c x y) Q s := by
  intro C a w hk ha hs
  obtain ⟨φ, hs⟩ := hs
  have hv := hs.val (x := c) (by rw [ha]; exact hin)
  rw [hc] at hv
  have : a.eval c = .bool t := by
    generalize a.eval c = v at hv
    cases hv with
    | p h => cases h; rfl
  exact wp_cond_split this (fun ht => h1 ht C a w hk ha ⟨φ, hs⟩) (fun ht => h2 ht C a w hk ha ⟨φ, hs⟩)

def inBlockS (id : Nat) (Q : Exit → St → Prop) : Exit → St → Prop
  | .exit id', s => if id' = id then Q .normal s else Q (.exit id') s
  | e, s => Q e s

theorem AWP.block {id : Nat} (h : AWP P n k0 c (inBlockS id Q) s) : AWP P n k0 (.block id c) Q s := by
  intro C a w hc ha hs
  refine wp_block (wp_mono (h C a w hc ha hs) ?_)
  rintro e a' w' ⟨s', h1, h2, h3⟩
  cases e with
  | exit id' =>
    simp only [Exit.inBlock, inBlockS] at h1 ⊢
    split
    · rename_i he; rw [if_pos he] at h1; exact ⟨s', h1, h2, h3⟩
    · rename_i he; rw [if_neg he] at h1; exact ⟨s', h1, h2, h3⟩
  | _ => exact ⟨s', h1, h2, h3⟩

theorem AWP.skip (h : Q .normal s) : AWP P n k0 .skip Q s := fun C a w _ ha hs => wp_skip ⟨s, h, ha, hs⟩
theorem AWP.exit {id : Nat} (h : Q (.exit id) s) : AWP P n k0 (.exit id) Q s := fun C a w _ ha hs => wp_exit ⟨s, h, ha, hs⟩
theorem AWP.ret (h : Q .ret s) : AWP P n k0 .ret Q s := fun C a w _ ha hs => wp_ret ⟨s, h, ha, hs⟩

theorem AWP.loop {σ ρ : Type} {f : σ → Option (σ ⊕ ρ)} (I : σ → St) (QX : ρ → Exit → St → Prop)
    (hb : ∀ z out, f z = some out → AWP P n k0 c (Up k0 fun e s' => match out with
      | .inl z' => e = .normal ∧ s' = I z'
      | .inr r => e ≠ .normal ∧ QX r e s') (I z)) {z0 : σ} {r : ρ} (h : loopO f z0 = some r) : AWP P n k0 (.loop c) (QX r) (I z0) := by
  intro C a w hc ha hs
  obtain ⟨m, hm⟩ := loopO_some.1 h
  refine wp_loop_rounds m ?_
  have key : ∀ (m : Nat) (z : σ) (a : Act) (w : World), iter f m z = some r → a.tmps.size = n → Sim C (I z) a w →
      Code.rounds P c (fun e a' w' => ∃ s', QX r e s' ∧ a'.tmps.size = n ∧ Sim C s' a' w') m a w := by
    intro m
    induction m with
    | zero => intro z a w hz; simp [iter] at hz
    | succ m ih =>
      intro z a w hz ha hs
      rw [rounds_succ]
      simp only [iter] at hz
      cases hf : f z with
      | none => rw [hf] at hz; cases hz
      | some out =>
        rw [hf] at hz
        refine wp_mono (hb z out hf C a w hc ha hs) ?_
        rintro e a' w' ⟨s', ⟨s2, hg, h1⟩, h2, h3⟩
        cases out with
        | inl z' =>
          simp only at h1 hz
          obtain ⟨rfl, rfl⟩ := h1
          exact ih z' a' w' hz h2 (hg C a' w' hc h3)
        | inr r' =>
          simp only [Option.some.injEq] at h1 hz
          subst hz
          cases e with
          | normal => exact absurd rfl h1.1
          | _ => exact ⟨s2, h1.2, h2, hg C a' w' hc h3⟩
  exact key m z0 a w hm ha hs

/-- A loop that ends behind so many rounds. -/
def LWP (P : Program) (n : Nat) (k0 : Nat → Nat) (c : Code) (Q : Exit → St → Prop) (s : St) : Prop :=
  ∃ m, ∀ (C : Ctx) (a : Act) (w : World), C.cnt0 = k0 → a.tmps.size = n → Sim C s a w → Code.rounds P c (fun e a' w' => ∃ s', Q e s' ∧ a'.tmps.size = n ∧ Sim C s' a' w') m a w

theorem LWP.awp (h : LWP P n k0 c Q s) : AWP P n k0 (.loop c) Q s := by
  obtain ⟨m, h⟩ := h
  exact fun C a w hc ha hs => wp_loop_rounds m (h C a w hc ha hs)

theorem LWP.more {t : St} (h : AWP P n k0 c (fun e s1 => e = .normal ∧ s1 = t) s) (h' : LWP P n k0 c Q t) : LWP P n k0 c Q s := by
  obtain ⟨m, h'⟩ := h'
  refine ⟨m + 1, fun C a w hc ha hs => ?_⟩
  rw [rounds_succ]
  refine wp_mono (h C a w hc ha hs) ?_
  rintro e a' w' ⟨s', ⟨rfl, rfl⟩, h2, h3⟩
  exact h' C a' w' hc h2 h3

theorem LWP.done (h : AWP P n k0 c (fun e s1 => e ≠ .normal ∧ Q e s1) s) : LWP P n k0 c Q s := by
  refine ⟨1, fun C a w hc ha hs => ?_⟩
  rw [rounds_succ]
  refine wp_mono (h C a w hc ha hs) ?_
  rintro e a' w' ⟨s', ⟨hne, h1⟩, h2, h3⟩
  cases e with
  | normal => exact absurd rfl hne
  | _ => exact ⟨s', h1, h2, h3⟩

/-- A call told by what its result is like. -/
structure DCall (P : Program) (s : St) (o : Oper) (K : St → Prop) : Prop where
  ex : ∃ f args types g caps xs h0 Q, o.op = .call { callee := .value f, args, argTypes := types } ∧ s.val f = .fn g caps ∧ Callable P g ∧
    ConvL s.heap (fun id => ∃ b, s.heap id = some b ∧ b.excl = false) (callArgs s args caps) xs ∧ (∀ id b, h0 id = some b → s.heap id = some b ∧ b.excl = true) ∧
    SpecAt P g h0 xs Q s.cnt ∧ ∀ h1 r cnt', Q h1 cnt' r → (∀ d, s.cnt d ≤ cnt' d) → (∀ id b, h1 id = some b → (∃ b0, h0 id = some b0) ∨ s.cnt id.1 ≤ id.2) →
      (∀ id b, h1 id = some b → id.2 < cnt' id.1) → K (St.set { s with heap := merge s.heap h0 h1, cnt := cnt' } o.dst r)

/-- Operations one behind the other. -/
inductive AL (P : Program) (k0 : Nat → Nat) (ops : Array Oper) (K : St → Prop) : List Oper → St → Prop
  | nil {s : St} : K s → AL P k0 ops K [] s
  | step {k : Kd} {o : Oper} {l : List Oper} {s s' : St} : StepK P ops k o s s' → AL P k0 ops K l s' → AL P k0 ops K (o :: l) s
  | call {o : Oper} {l : List Oper} {s : St} {K' : St → Prop} : wantedE ops s o = some true → DCall P s o K' → (∀ s', K' s' → AL P k0 ops K l s') → AL P k0 ops K (o :: l) s
  | ghost {l : List Oper} {s s' : St} : Goes k0 s s' → AL P k0 ops K l s' → AL P k0 ops K l s

theorem AL.sound {K : St → Prop} {C : Ctx} {R : Exit → Act → World → Prop} (hc : C.cnt0 = k0) (hin : ops.all (opIn n ops) = true) (hK : ∀ s a w, K s → a.tmps.size = n → Sim C s a w → R .normal a w) {l : List Oper} {s : St} (h : AL P k0 ops K l s) :
    ∀ (i : Nat) (a : Act) (w : World), ops.toList.drop i = l → a.tmps.size = n → Sim C s a w → wpOps P ops R (List.range' i l.length) a w := by
  have hop : ∀ {i : Nat} {o : Oper} {l : List Oper}, ops.toList.drop i = o :: l → ops[i]? = some o ∧ ops.toList.drop (i + 1) = l ∧ opIn n ops o = true := by
    intro i o l hd
    have h1 : ops.toList[i]? = some o := by
      have := congrArg List.head? hd
      rw [List.head?_drop] at this; simpa using this
    have h2 : ops[i]? = some o := by simpa using h1
    refine ⟨h2, ?_, ?_⟩
    · have := congrArg List.tail hd
      simpa [List.tail_drop] using this
    · exact (Array.all_eq_true_iff_forall_mem.1 hin) o (Array.mem_of_getElem? h2)
  induction h with
  | nil hk => intro i a w _ ha hs; exact hK _ a w hk ha hs
  | step hst _ ih =>
    intro i a w hd ha hs
    obtain ⟨h1, h2, h3⟩ := hop hd
    obtain ⟨φ, hs⟩ := hs
    rw [List.length_cons, List.range'_succ, wpOps_cons]
    exact hst.sound h1 h3 ha hs fun a' w' ha' hs' => ih (i + 1) a' w' h2 ha' hs'
  | ghost hg _ ih => intro i a w hd ha hs; exact ih i a w hd ha (hg C a w hc hs)
  | call hw hd' _ ih =>
    intro i a w hd ha hs
    rename_i o l s K' hall
    obtain ⟨h1, h2, h3⟩ := hop hd
    obtain ⟨φ, h⟩ := hs
    rw [List.length_cons, List.range'_succ, wpOps_cons]
    obtain ⟨f, args, types, g, caps, xs, h0, Q0, hop', hfv, hg, hconv, hsub, hspec, hk⟩ := hd'.ex
    have hops : ∀ x ∈ o.op.operands, inSlots n x = true := by
      unfold opIn at h3
      simp only [Bool.and_eq_true, Array.all_eq_true_iff_forall_mem] at h3
      exact h3.1
    have hv : ∀ x, inSlots n x = true → RepE s.cnt φ (Ok C s.heap φ) w (a.eval x) (s.val x) := fun x hx => h.val (by rw [ha]; exact hx)
    have hopf : ∀ x ∈ args, inSlots n x = true := fun x hx => hops x (by rw [hop']; simp [Op.operands, Call.operands, hx])
    have hf := hv f (hops f (by rw [hop']; simp [Op.operands, Call.operands]))
    rw [hfv] at hf
    generalize hcf : a.eval f = cf at *
    cases hf with
    | fn hcs hcr =>
    rename_i carr
    have hexec := call_exec (P := P) (w := w) hop' hcf hg
    obtain ⟨r1, r2⟩ := args_rep hv hopf hcs hcr
    unfold wpOp
    simp only [h1, wantedE_run h ha h3 hw, if_true]
    refine .inl ?_
    simp only [Oper.wp, hexec, Oper.upon_enter]
    have hxs : ∀ (j : Nat) (hj : j < xs.length), RepE s.cnt φ (Ok C s.heap φ) w (at_ (args.map a.eval ++ carr) j) xs[j] := fun j hj =>
      (hconv.2 j (by rw [hconv.1]; exact hj) hj).rep h.heap (fun _ _ q => q) (fun id blk hok hb j hj => by
        obtain ⟨b, hb2, hex⟩ := hok
        rw [hb] at hb2; injection hb2 with hb2; subst hb2
        refine .inl ⟨(h.heap.blk id blk hb).own, ?_⟩
        rintro ⟨id', blk', q1, q2, q3⟩
        have := h.heap.inj id' id blk' blk q1 hb q2
        subst this
        rw [hb] at q1; injection q1 with q1; subst q1
        rcases q3 with q3 | q3
        · rw [hex] at q3; cases q3
        · omega) (r2 j (by rw [hconv.1]; exact hj))
    refine (callW_run h hsub hxs (by rw [r1]; exact hconv.1) hspec o.dst).mono ?_
    rintro e w' ⟨v, cnt', φ', h1', r', rfl, hQ, c1, c2, c3, hsim, _⟩
    have hput : ∀ v, (a.put o.dst v).tmps.size = n := fun v => by
      cases o.dst with
      | none => exact ha
      | some d => simp [Act.put, ha]
    exact ih _ (hk h1' r' cnt' hQ c1 c2 c3) (i + 1) _ _ h2 (hput v) ⟨φ', hsim⟩

theorem AWP.region {K : St → Prop} {id : Nat} (hin : ops.all (opIn n ops) = true) (h : AL P k0 ops K ops.toList s) (hK : ∀ s, K s → Q .normal s) : AWP P n k0 (.region id ops false) Q s := by
  intro C a w hc ha hs
  refine wp_region ?_
  have := AL.sound (R := fun e a' w' => ∃ s', Q e s' ∧ a'.tmps.size = n ∧ Sim C s' a' w') hc hin (fun s a w hk ha hs => ⟨s, hK s hk, ha, hs⟩) h 0 a w (by simp) ha hs
  rw [List.range_eq_range']
  simpa using this

end
end Go.Vm
