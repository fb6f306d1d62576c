/- Calls that are lent blocks; functions out of their bodies. No condition. -/
import Derived.Test.YtfjmcdacnhfacaaGreatDoorVmK
set_option linter.all false
namespace Go.Vm
open Go

/-- The caller's heap behind a call: what was lent is gone, what came back is there. -/
def merge (h h0 h1 : Heap) : Heap := fun id =>
  match h1 id with
  | some b => some b
  | none => match h0 id with
    | some _ => none
    | none => h id

section
variable {P : Program} {C : Ctx} {s : St} {φ : Id → Nat × Nat} {a : Act} {w : World}

theorem callW_run {g : FuncId} {xs : List E} {h0 : Heap} {cs : Array Value} {Q : Heap → (Nat → Nat) → E → Prop} (h : SimAt C s φ a w) (hsub : ∀ id blk, h0 id = some blk → s.heap id = some blk ∧ blk.excl = true)
    (hxs : ∀ (j : Nat) (hj : j < xs.length), RepE s.cnt φ (Ok C s.heap φ) w (at_ cs j) xs[j]) (hsz : cs.size = xs.length) (hspec : SpecAt P g h0 xs Q s.cnt) (d : Option Tmp) :
    Calls P g cs w fun (e : Ending) (w' : World) => ∃ (v : Value) (cnt' : Nat → Nat) (φ' : Id → Nat × Nat) (h1 : Heap) (r : E), e = .returned v ∧ Q h1 cnt' r ∧ (∀ d, s.cnt d ≤ cnt' d) ∧
      (∀ id blk, h1 id = some blk → (∃ blk0, h0 id = some blk0) ∨ s.cnt id.1 ≤ id.2) ∧ (∀ id blk, h1 id = some blk → id.2 < cnt' id.1) ∧
      SimAt C (St.set { s with heap := merge s.heap h0 h1, cnt := cnt' } d r) φ' (a.put d v) w' ∧
      (noRefH h1 → r.noRef = true → (∀ id b, h1 id = some b → ∃ b0, h0 id = some b0) → SimAt C (St.set { s with heap := merge s.heap h0 h1 } d r) φ' (a.put d v) w') := by
  generalize hC0 : ctxOf w (Ok C s.heap φ) h0 φ s.cnt = C0
  have hlentdef : ∀ b, C0.lent b ↔ lentOf h0 φ b := fun b => by rw [← hC0]; exact Iff.rfl
  have hA0 : ∀ b i, C0.A0 b i ↔ Ok C s.heap φ b i := fun b i => by rw [← hC0]; exact Iff.rfl
  have hw0 : C0.w0 = w := by rw [← hC0]; rfl
  have hownC : ∀ b, C0.own b → C.own b := by
    intro b hb
    rcases hb with hb | hb
    · rw [hw0] at hb; exact h.own_of hb
    · obtain ⟨id, blk, g1, rfl⟩ := (hlentdef b).1 hb
      exact (h.heap.blk id blk (hsub _ _ g1).1).own
  have hlentlt : ∀ b, lentOf h0 φ b → b < w.heap.size := by
    rintro b ⟨id, blk, g1, rfl⟩
    exact h.blk_lt (hsub _ _ g1).1
  have hlentA : ∀ b i, lentOf h0 φ b → ¬ Ok C s.heap φ b i := by
    rintro b i ⟨id, blk, g1, rfl⟩ hA
    rcases hA with ⟨_, q⟩ | ⟨q, _⟩
    · exact q ⟨id, blk, (hsub _ _ g1).1, rfl, .inl (hsub _ _ g1).2⟩
    · exact q (h.heap.blk id blk (hsub _ _ g1).1).own
  have hk0 : Keeps (Ok C s.heap φ) w (Ok C0 h0 φ) w := by
    intro b arr T fr hb
    refine ⟨arr, fr, hb, rfl, fun i hi => ⟨.inr ⟨fun ho => ?_, (hA0 b i).2 hi⟩, rfl⟩⟩
    rcases ho with ho | ho
    · rw [hw0] at ho; have := lt_of_row hb; omega
    · exact hlentA b i ((hlentdef b).1 ho) hi
  have hspec' := hspec w (Ok C s.heap φ) φ cs
  rw [hC0] at hspec'
  refine (hspec' ⟨fun id blk hb => ?_, fun id id' b b' g1 g2 he => h.heap.inj id id' b b' (hsub _ _ g1).1 (hsub _ _ g2).1 he⟩ (fun id blk hb => (hsub _ _ hb).2) hsz
    fun j hj => (hxs j hj).mono (fun _ => Nat.le_refl _) (fun _ _ => rfl) hk0).mono ?_
  · obtain ⟨p1, p2, arr, T, fr, r1, r2, r3, r4, r5⟩ := h.heap.blk id blk (hsub _ _ hb).1
    exact ⟨p1, .inr ((hlentdef _).2 ⟨id, blk, hb, rfl⟩), arr, T, fr, r1, r2, r3, r4, fun j hj => (r5 j hj).mono (fun _ => Nat.le_refl _) (fun _ _ => rfl) hk0⟩
  · rintro e w' ⟨v, cnt', φ', h1, r, rfl, hQ, c1, c2, c3, c4, c5, c6, c7, c8, c9⟩
    refine ⟨v, cnt', φ', h1, r, rfl, hQ, c1, c8, fun id blk hb => (c3.blk id blk hb).below, ?_⟩
    have frame : ∀ id blk, merge s.heap h0 h1 id = some blk → h1 id = some blk ∨ (h1 id = none ∧ h0 id = none ∧ s.heap id = some blk) := by
      intro id blk hb
      unfold merge at hb
      split at hb
      · rename_i b hb1; exact .inl (by rw [hb1, ← hb])
      · rename_i hb1
        split at hb
        · cases hb
        · rename_i hb0; exact .inr ⟨hb1, hb0, hb⟩
    have fphi : ∀ id blk, s.heap id = some blk → φ' id = φ id := fun id blk hb => c2 id (h.heap.blk id blk hb).below
    have fnot : ∀ id blk, h0 id = none → s.heap id = some blk → ¬ lentOf h0 φ (φ id).1 := by
      rintro id blk hn hb ⟨id0, blk0, g1, g2⟩
      have := h.heap.inj id0 id blk0 blk (hsub _ _ g1).1 hb g2
      subst this
      rw [hn] at g1; cases g1
    have hOk1 : ∀ b i, Ok C0 h1 φ' b i → Ok C (merge s.heap h0 h1) φ' b i := by
      intro b i hi
      rcases hi with ⟨q1, q2⟩ | ⟨q1, q2⟩
      · refine .inl ⟨hownC b q1, ?_⟩
        rintro ⟨id, blk, g1, g2, g3⟩
        rcases frame id blk g1 with e1 | ⟨_, e2, e3⟩
        · exact q2 ⟨id, blk, e1, g2, g3⟩
        · rw [fphi id blk e3] at g2
          rcases q1 with q1 | q1
          · rw [hw0] at q1; have := h.blk_lt e3; omega
          · exact fnot id blk e2 e3 (by rw [g2]; exact (hlentdef b).1 q1)
      · have q2' := (hA0 b i).1 q2
        rcases q2' with ⟨x1, x2⟩ | ⟨x1, x2⟩
        · refine .inl ⟨x1, ?_⟩
          rintro ⟨id, blk, g1, g2, g3⟩
          rcases frame id blk g1 with e1 | ⟨_, e2, e3⟩
          · have := (c3.blk id blk e1).own
            rw [g2] at this; exact q1 this
          · rw [fphi id blk e3] at g2 g3
            exact x2 ⟨id, blk, e3, g2, g3⟩
        · exact .inr ⟨x1, x2⟩
    have hOk2 : ∀ b i, b < w.heap.size → Ok C s.heap φ b i → Ok C (merge s.heap h0 h1) φ' b i := by
      intro b i hlt hi
      refine hOk1 b i (.inr ⟨?_, (hA0 b i).2 hi⟩)
      rintro (ho | ho)
      · rw [hw0] at ho; omega
      · exact hlentA b i ((hlentdef b).1 ho) hi
    have hk : Keeps (Ok C s.heap φ) w (Ok C (merge s.heap h0 h1) φ') w' := by
      intro b arr T fr hb
      have hlt := lt_of_row hb
      by_cases hl : lentOf h0 φ b
      · obtain ⟨arr', fr', e1, e2⟩ := c7 b arr T fr hb
        exact ⟨arr', fr', e1, e2, fun i hi => absurd hi (hlentA b i hl)⟩
      · exact ⟨arr, fr, by rw [c5 b hlt hl]; exact hb, rfl, fun i hi => ⟨hOk2 b i hlt hi, rfl⟩⟩
    have hk1 : Keeps (Ok C0 h1 φ') w' (Ok C (merge s.heap h0 h1) φ') w' := Keeps.refl hOk1
    have hinj : ∀ id id' b b', merge s.heap h0 h1 id = some b → merge s.heap h0 h1 id' = some b' → (φ' id).1 = (φ' id').1 → id = id' := by
      intro id id' b b' g1 g2 he
      have cross : ∀ id id' b b', h1 id = some b → h0 id' = none → s.heap id' = some b' → (φ' id).1 = (φ' id').1 → False := by
        intro id id' b b' e1 e2 e3 he
        rw [fphi _ _ e3] at he
        have := (c3.blk id b e1).own
        rw [he] at this
        rcases this with q | q
        · rw [hw0] at q; have := h.blk_lt e3; omega
        · exact fnot id' b' e2 e3 ((hlentdef _).1 q)
      rcases frame id b g1 with e1 | ⟨_, e2, e3⟩ <;> rcases frame id' b' g2 with e1' | ⟨_, e2', e3'⟩
      · exact c3.inj id id' b b' e1 e1' he
      · exact (cross id id' b b' e1 e2' e3' he).elim
      · exact (cross id' id b' b e1' e2 e3 he.symm).elim
      · rw [fphi _ _ e3, fphi _ _ e3'] at he
        exact h.heap.inj id id' b b' e3 e3' he
    have hlow : ∀ b, b < C.w0.heap.size → ¬ C.lent b → w'.heap[b]? = w.heap[b]? := by
      intro b hb hl
      refine c5 b (Nat.lt_of_lt_of_le hb h.grew) ?_
      rintro ⟨id, blk, g1, g2⟩
      have := (h.heap.blk id blk (hsub _ _ g1).1).own
      rw [g2] at this
      rcases this with q | q
      · omega
      · exact hl q
    have hrowsame : ∀ id blk, h0 id = none → s.heap id = some blk → ∀ arr T fr, w.heap[(φ id).1]? = some (.cells arr T fr) → ∃ arr' fr', w'.heap[(φ id).1]? = some (.cells arr' T fr') ∧ arr'.size = arr.size ∧
        (∀ i, i < arr'.size → ¬ (fr.1 ≤ i ∧ i < fr.2) → ¬ (fr'.1 ≤ i ∧ i < fr'.2)) ∧ ∀ j, j < blk.cells.length → at_ arr' ((φ id).2 + j) = at_ arr ((φ id).2 + j) := fun id blk e2 e3 arr T fr hr =>
      ⟨arr, fr, by rw [c5 _ (h.blk_lt e3) (fnot id blk e2 e3)]; exact hr, rfl, fun _ _ q => q, fun _ _ => rfl⟩
    refine ⟨?_, fun hnh hrn hids => ?_⟩
    · have hsim : SimAt C { s with heap := merge s.heap h0 h1, cnt := cnt' } φ' a w' := by
        refine h.evolve c1 c2 hk ⟨fun id blk hb => ?_, hinj⟩ hlow c6 c9
        rcases frame id blk hb with e1 | ⟨_, e2, e3⟩
        · obtain ⟨p1, p2, arr, T, fr, r1, r2, r3, r4, r5⟩ := c3.blk id blk e1
          exact ⟨p1, hownC _ p2, arr, T, fr, r1, r2, r3, r4, fun j hj => (r5 j hj).mono (fun _ => Nat.le_refl _) (fun _ _ => rfl) hk1⟩
        · exact (h.heap.blk id blk e3).mono c1 c2 hk (hrowsame id blk e2 e3)
      exact hsim.set (c4.mono (fun _ => Nat.le_refl _) (fun _ _ => rfl) hk1)
    · have hsim : SimAt C { s with heap := merge s.heap h0 h1 } φ' a w' := by
        refine h.evolve (cnt' := s.cnt) (fun _ => Nat.le_refl _) c2 hk ⟨fun id blk hb => ?_, hinj⟩ hlow c6 c9
        rcases frame id blk hb with e1 | ⟨_, e2, e3⟩
        · obtain ⟨p1, p2, arr, T, fr, r1, r2, r3, r4, r5⟩ := c3.blk id blk e1
          obtain ⟨b0, e0⟩ := hids _ _ e1
          exact ⟨(h.heap.blk id b0 (hsub _ _ e0).1).below, hownC _ p2, arr, T, fr, r1, r2, r3, r4, fun j hj => (r5 j hj).rename hk1 (noRefs_get (hnh _ _ e1) j hj)⟩
        · exact (h.heap.blk id blk e3).mono (fun _ => Nat.le_refl _) c2 hk (hrowsame id blk e2 e3)
      exact hsim.set (c4.rename hk1 hrn)

end

/-! ### a function out of its body -/
/-- What holds of a piece of code: begun in a state s it ends, by the exits and in the states that Q has. n: how many slots. -/
def AWP (P : Program) (n : Nat) (k0 : Nat → Nat) (c : Code) (Q : Exit → St → Prop) (s : St) : Prop :=
  ∀ (C : Ctx) (a : Act) (w : World), C.cnt0 = k0 → a.tmps.size = n → Sim C s a w → c.wp P (fun e a' w' => ∃ s', Q e s' ∧ a'.tmps.size = n ∧ Sim C s' a' w') a w

/-- What a function's result variables hold. -/
def resE (P : Program) (h : Heap) (env : Nat → E) (n : Nat) : ResultVar → Option E
  | .tmp t => if t < n then some (env t) else none
  | .cell t ty => if t < n then loadE P ty h (env t) else none

def resultE (P : Program) (fn : Func) (s : St) (n : Nat) : Option E :=
  match fn.results.toList.mapM (resE P s.heap s.env n) with
  | some [e] => some e
  | some es => some (.tup es)
  | none => none

/-- At a function's end: r is what is handed out, h1 the blocks that are handed back or over. -/
def Ends (P : Program) (fn : Func) (n : Nat) (h0 : Heap) (cnt0 : Nat → Nat) (Q : Heap → (Nat → Nat) → E → Prop) (s : St) : Prop :=
  ∃ e h1 r, resultE P fn s n = some e ∧ (∀ id b, h1 id = some b → ∃ b0, s.heap id = some b0 ∧ b0.cells = b.cells ∧ (b.excl = true → b0.excl = true)) ∧
    (∀ id b, h1 id = some b → (∃ b0, h0 id = some b0) ∨ cnt0 id.1 ≤ id.2) ∧
    Conv s.heap (fun id => h1 id = none ∨ ∃ b, h1 id = some b ∧ b.excl = false) e r ∧ Q h1 s.cnt r

def exitOk (K : St → Prop) : Exit → St → Prop
  | .normal, s => K s
  | .ret, s => K s
  | _, _ => False

section
variable {P : Program} {C : Ctx} {s : St} {φ : Id → Nat × Nat} {a : Act} {w : World}

theorem res_run {n : Nat} (h : SimAt C s φ a w) (ha : a.tmps.size = n) {x : ResultVar} {e : E} (he : resE P s.heap s.env n x = some e) :
    ∃ v, (match x with
      | .tmp t => pure (a.tmps.getD t undef)
      | .cell c t => do loadVar t (← asAddr (a.tmps.getD c undef)) : Sem Value).run P w = .ok v w ∧ RepE s.cnt φ (Ok C s.heap φ) w v e := by
  unfold resE at he
  cases x with
  | tmp t =>
    simp only at he ⊢
    split at he
    · rename_i ht
      injection he with he; subst he
      exact ⟨_, rfl, h.slots t (by rw [ha]; exact ht)⟩
    · cases he
  | cell c t =>
    simp only at he ⊢
    split at he
    · rename_i ht
      have hs := h.slots c (by rw [ha]; exact ht)
      obtain ⟨v, g1, g2⟩ := loadE_gives h.heap hs he
      refine ⟨v, ?_, g2⟩
      have : ∀ cv e0, RepE s.cnt φ (Ok C s.heap φ) w cv e0 → loadE P t s.heap e0 = some e → (Instr.loadAt t cv).run P w = .ok v w → (do loadVar t (← asAddr cv) : Sem Value).run P w = .ok v w := by
        intro cv e0 hr hl hrun
        unfold loadE at hl
        split at hl
        · cases hr; exact hrun
        · cases hr; exact hrun
        · cases hl
      exact this _ _ hs he g1
    · cases he

theorem res_mapM {n : Nat} (h : SimAt C s φ a w) (ha : a.tmps.size = n) : ∀ (rs : List ResultVar) (es : List E), rs.mapM (resE P s.heap s.env n) = some es →
    ∃ vs : List Value, (rs.mapM (m := Sem) fun
      | .tmp t => pure (a.tmps.getD t undef)
      | .cell c t => do loadVar t (← asAddr (a.tmps.getD c undef))).run P w = .ok vs w ∧ vs.length = es.length ∧ ∀ (j : Nat) (h1 : j < vs.length) (h2 : j < es.length), RepE s.cnt φ (Ok C s.heap φ) w vs[j] es[j]
  | [], es, he => by simp at he; subst he; exact ⟨[], by simp, rfl, fun j h1 _ => by simp at h1⟩
  | x :: rs, es, he => by
    simp only [List.mapM_cons, Option.bind_eq_bind, Option.bind_eq_some_iff] at he
    obtain ⟨e, he0, es', hes, he⟩ := he
    simp at he; subst he
    obtain ⟨v, g1, g2⟩ := res_run h ha he0
    obtain ⟨vs, k1, k2, k3⟩ := res_mapM h ha rs es' hes
    refine ⟨v :: vs, ?_, by simp [k2], fun j h1 h2 => ?_⟩
    · simp only [List.mapM_cons, Sem.run_bind]
      cases x <;> (simp only at g1; rw [g1]; simp only [Result.andThen_ok, k1, Sem.run_pure])
    · cases j with
      | zero => exact g2
      | succ j => exact k3 j (by simpa using h1) (by simpa using h2)

theorem result_run {n : Nat} {fn : Func} (h : SimAt C s φ a w) (ha : a.tmps.size = n) {e : E} (he : resultE P fn s n = some e) :
    ∃ v, (results fn a.tmps).run P w = .ok v w ∧ RepE s.cnt φ (Ok C s.heap φ) w v e := by
  unfold resultE at he
  split at he
  all_goals first
    | (cases he; done)
    | skip
  · rename_i e' hm
    injection he with he; subst he
    obtain ⟨vs, k1, k2, k3⟩ := res_mapM h ha _ _ hm
    match vs, k2 with
    | [v], _ =>
      refine ⟨v, ?_, k3 0 (by simp) (by simp)⟩
      unfold results
      rw [← Array.toArray_toList (xs := fn.results), List.mapM_toArray]
      simp only [Sem.run_bind, Sem.run_map]
      refine (congrArg (fun r : Result (List Value) => (r.andThen fun a w' => Result.ok a.toArray w').andThen fun a w' => Sem.run P (pure (if h : a.size = 1 then a[0] else Value.tuple a)) w') k1).trans ?_
      simp
  · rename_i es hne hm
    injection he with he; subst he
    obtain ⟨vs, k1, k2, k3⟩ := res_mapM h ha _ _ hm
    have hlen : vs.length ≠ 1 := by
      intro h1
      rw [k2] at h1
      match es, h1 with
      | [x], _ => exact hne x rfl
    refine ⟨.tuple vs.toArray, ?_, .tup (by simpa using k2) fun j hj => ?_⟩
    · unfold results
      rw [← Array.toArray_toList (xs := fn.results), List.mapM_toArray]
      simp only [Sem.run_bind, Sem.run_map]
      refine (congrArg (fun r : Result (List Value) => (r.andThen fun a w' => Result.ok a.toArray w').andThen fun a w' => Sem.run P (pure (if h : a.size = 1 then a[0] else Value.tuple a)) w') k1).trans ?_
      simp [hlen]
    · have h1 : j < vs.length := by omega
      have : at_ vs.toArray j = vs[j] := by simp [at_, h1]
      rw [this]; exact k3 j h1 hj

end

theorem SpecAt.of_body {P : Program} {f : FuncId} {fn : Func} {c : Code} {n : Nat} {h0 : Heap} {args : List E} {Q : Heap → (Nat → Nat) → E → Prop} {cnt : Nat → Nat} (hf : P.funcs[f]? = some fn) (hb : fn.body = some c) (hn : fn.ntmps = n) (hargs : args.length ≤ n)
    (h : (∀ id blk, h0 id = some blk → id.2 < cnt id.1) → AWP P n cnt c (exitOk (Ends P fn n h0 cnt Q)) ⟨fun t => args.getD t .dead, h0, cnt⟩) : SpecAt P f h0 args Q cnt := by
  intro w A φ cs hh hex hsz hrep
  generalize hC : ctxOf w A h0 φ cnt = C at *
  have hw0 : C.w0 = w := by rw [← hC]; rfl
  have hlent : ∀ b, C.lent b ↔ lentOf h0 φ b := fun b => by rw [← hC]; exact Iff.rfl
  have hcnt0 : C.cnt0 = cnt := by rw [← hC]; rfl
  have hphi0 : C.phi0 = φ := by rw [← hC]; rfl
  refine calls_of_wp hf hb ?_
  generalize ha : ({ tmps := cs ++ Array.replicate (fn.ntmps - cs.size) undef, defers := [] } : Act) = a
  have hasz : a.tmps.size = n := by rw [← ha]; simp; omega
  have hsim : SimAt C ⟨fun t => args.getD t .dead, h0, cnt⟩ φ a w := by
    refine ⟨hh, fun t ht => ?_, fun b _ _ => by rw [hw0], by rw [hw0]; exact Nat.le_refl _, fun b hb' => ?_, fun b arr T fr hb' => ⟨arr, fr, by rw [← hw0]; exact hb', rfl⟩, fun d => by rw [hcnt0]; exact Nat.le_refl _, fun id _ => by rw [hphi0], by rw [← ha], by rw [hw0]; exact .refl⟩
    · by_cases hlt : t < args.length
      · have e1 : at_ a.tmps t = at_ cs t := by rw [← ha]; simp [at_, Array.getElem?_append, show t < cs.size by omega]
        rw [e1]
        have := hrep t hlt
        simpa [List.getD, hlt] using this
      · have e1 : args.getD t .dead = .dead := by simp [List.getD, List.getElem?_eq_none (Nat.le_of_not_lt hlt)]
        simp only [e1]
        exact .dead _
    · obtain ⟨id, blk, g1, rfl⟩ := (hlent b).1 hb'
      obtain ⟨_, _, arr, T, fr, r1, _⟩ := hh.blk id blk g1
      rw [hw0]; exact lt_of_row r1
  refine wp_mono (h (fun id blk hb' => (hh.blk id blk hb').below) C a w hcnt0 hasz ⟨φ, hsim⟩) ?_
  rintro e a' w' ⟨s', hQ, hsz', φ', hs'⟩
  have main : Ends P fn n h0 cnt Q s' → a'.defers = [] ∧ ∃ v, (results fn a'.tmps).run P w' = .ok v w' ∧ ∃ (v' : Value) (cnt' : Nat → Nat) (φ' : Id → Nat × Nat) (h1 : Heap) (r : E), Ending.returned v = .returned v' ∧ Q h1 cnt' r ∧
      (∀ d, cnt d ≤ cnt' d) ∧ (∀ id : Id, id.2 < cnt id.1 → φ' id = φ id) ∧ HRel C.own (Ok C h1 φ') h1 cnt' φ' w' ∧ RepE cnt' φ' (Ok C h1 φ') w' v' r ∧
      (∀ b, b < w.heap.size → ¬ lentOf h0 φ b → w'.heap[b]? = w.heap[b]?) ∧ w.heap.size ≤ w'.heap.size ∧
      (∀ (b : Nat) (arr : Array Value) (T : TypeId) (fr : Nat × Nat), w.heap[b]? = some (Obj.cells arr T fr) → ∃ (arr' : Array Value) (fr' : Nat × Nat), w'.heap[b]? = some (Obj.cells arr' T fr') ∧ arr'.size = arr.size) ∧
      (∀ id blk, h1 id = some blk → (∃ blk0, h0 id = some blk0) ∨ cnt id.1 ≤ id.2) ∧ SameOut w w' := by
    rintro ⟨e, h1, r, he, hsub, hids, hconv, hQ⟩
    refine ⟨hs'.defers, ?_⟩
    obtain ⟨v, g1, g2⟩ := result_run hs' hsz' he
    refine ⟨v, g1, v, s'.cnt, φ', h1, r, rfl, hQ, fun d => by rw [← hcnt0]; exact hs'.cntLe d, fun id hid => by rw [← hphi0]; exact hs'.phi id (by rw [hcnt0]; exact hid), ?_⟩
    have hwk := hs'.weaken (h' := h1) hsub
    have hU : ∀ b i, U h1 φ' b i → U s'.heap φ' b i := by
      rintro b i ⟨id, blk, q1, q2, q3⟩
      obtain ⟨b0, e1, e2, e3⟩ := hsub _ _ q1
      exact ⟨id, b0, e1, q2, q3.imp e3 fun g => by rw [e2]; exact g⟩
    refine ⟨hwk.heap, ?_, fun b hb' hl => by have := hs'.low b (by rw [hw0]; exact hb') (fun q => hl ((hlent b).1 q)); rw [hw0] at this; exact this, by have := hs'.grew; rw [hw0] at this; exact this, fun b arr T fr hb' => hs'.rows b arr T fr (by rw [hw0]; exact hb'), hids, by have := hs'.out; rw [hw0] at this; exact this⟩
    refine hconv.rep hs'.heap (fun b i hi => ?_) (fun id blk hok hb' j hj => ?_) g2
    · rcases hi with ⟨q1, q2⟩ | ⟨q1, q2⟩
      · exact .inl ⟨q1, fun hu => q2 (hU b i hu)⟩
      · exact .inr ⟨q1, q2⟩
    · refine .inl ⟨(hs'.heap.blk id blk hb').own, ?_⟩
      rintro ⟨id', blk', q1, q2, q3⟩
      obtain ⟨b0, e1, e2, e3⟩ := hsub _ _ q1
      have := hs'.heap.inj id' id b0 blk e1 hb' q2
      subst this
      rcases hok with hno | ⟨b1, hb1, hex⟩
      · rw [hno] at q1; cases q1
      · rw [hb1] at q1; injection q1 with q1; subst q1
        rw [e1] at hb'; injection hb' with hb'; subst hb'
        rcases q3 with q3 | q3
        · rw [hex] at q3; cases q3
        · rw [← e2] at q3; omega
  cases e with
  | normal => exact main hQ
  | ret => exact main hQ
  | _ => exact hQ.elim

end Go.Vm
