/- Calls: what a function does to the blocks that it is lent; how a caller goes on behind it. No condition. -/
import Derived.Test.YtfjmcdacnhfacaaGreatDoorVmJ2
set_option linter.all false
namespace Go.Vm
open Go

/-- A slot value told anew: own slices as plain lists (those of which ok holds). -/
inductive Conv (h : Heap) (ok : Id → Prop) : E → E → Prop
  | refl (e : E) : Conv h ok e e
  | nil (sz : Nat) : Conv h ok .nil (.p (.list sz []))
  | sl {id : Id} {blk : Blk} {sz off len : Nat} {ps : List P} : h id = some blk → ok id → 0 < sz → off + len * sz ≤ blk.cells.length → ps.length = len * sz →
      (∀ (j : Nat) (h1 : j < ps.length) (h2 : off + j < blk.cells.length), Conv h ok blk.cells[off + j] (.p ps[j])) → Conv h ok (.sl id sz off len) (.p (.list sz ps))
  | agg {es es' : List E} : es.length = es'.length → (∀ (j : Nat) (h1 : j < es.length) (h2 : j < es'.length), Conv h ok es[j] es'[j]) → Conv h ok (.agg es) (.agg es')
  | aggp {es : List E} {ps : List P} : es.length = ps.length → (∀ (j : Nat) (h1 : j < es.length) (h2 : j < ps.length), Conv h ok es[j] (.p ps[j])) → Conv h ok (.agg es) (.p (.agg ps))
  | tup {es es' : List E} : es.length = es'.length → (∀ (j : Nat) (h1 : j < es.length) (h2 : j < es'.length), Conv h ok es[j] es'[j]) → Conv h ok (.tup es) (.tup es')
  | fn {f : FuncId} {es es' : List E} : es.length = es'.length → (∀ (j : Nat) (h1 : j < es.length) (h2 : j < es'.length), Conv h ok es[j] es'[j]) → Conv h ok (.fn f es) (.fn f es')

section
variable {P : Program} {cnt : Nat → Nat} {φ : Id → Nat × Nat} {A A' : Nat → Nat → Prop} {w : World} {own : Nat → Prop} {h : Heap} {ok : Id → Prop}

theorem Conv.rep (hh : HRel own A h cnt φ w) (hA : ∀ b i, A b i → A' b i) (hok : ∀ id blk, ok id → h id = some blk → ∀ j, j < blk.cells.length → A' (φ id).1 ((φ id).2 + j))
    {e r : E} (hc : Conv h ok e r) : ∀ {c : Value}, RepE cnt φ A w c e → RepE cnt φ A' w c r := by
  induction hc with
  | refl e => intro c hr; exact hr.mono (fun _ => Nat.le_refl _) (fun _ _ => rfl) (Keeps.refl hA)
  | nil sz => intro c hr; cases hr; exact .p (.empty _ _ _)
  | sl hb hid hsz hv hlen hcell ih =>
    intro c hr
    cases hr with
    | sl _ _ cap g1 g2 g3 g4 g5 g6 =>
    rename_i id blk sz off len ps b base arr T fr
    obtain ⟨p1, p2, arr0, T0, fr0, r1, r2, r3, r4, r5⟩ := hh.blk id blk hb
    have hokb := hok id blk hid hb
    rw [g2] at r1 r2 r4 r5 hokb
    simp only at r1 r2 r4 r5 hokb
    refine .p (.list r1 hsz hlen g4 (by omega) (fun j hj => ?_) (fun j hj => ?_) (fun j hj => ?_))
    · rw [Nat.add_assoc]; exact hokb _ (by omega)
    · rw [Nat.add_assoc]; exact r4 _ (by omega)
    · rw [Nat.add_assoc]
      have := ih j hj (by omega) (r5 (off + j) (by omega))
      exact this.p_inv
  | agg hl hcs ih =>
    intro c hr
    cases hr with
    | agg hs ho hc =>
    exact .agg (by omega) (fun j hj => ho j (by omega)) (fun j hj => ih j (by omega) hj (hc j (by omega)))
  | aggp hl hcs ih =>
    intro c hr
    cases hr with
    | agg hs ho hc =>
    exact .p (.agg (by omega) (fun j hj => ho j (by omega)) (fun j hj => (ih j (by omega) hj (hc j (by omega))).p_inv))
  | tup hl hcs ih =>
    intro c hr
    cases hr with
    | tup hs hc =>
    exact .tup (by omega) (fun j hj => ih j (by omega) hj (hc j (by omega)))
  | fn hl hcs ih =>
    intro c hr
    cases hr with
    | fn hs hc =>
    exact .fn (by omega) (fun j hj => ih j (by omega) hj (hc j (by omega)))

end

/-- The blocks that a heap of one's own lies in. -/
def lentOf (h0 : Heap) (φ : Id → Nat × Nat) (b : Nat) : Prop := ∃ id blk, h0 id = some blk ∧ (φ id).1 = b

def ctxOf (w : World) (A : Nat → Nat → Prop) (h0 : Heap) (φ : Id → Nat × Nat) (cnt : Nat → Nat) : Ctx := ⟨w, A, lentOf h0 φ, cnt, φ⟩

/-- Called with these values, lent these blocks (all exclusive), the function returns; what it returns and what it gives back is as Q says. -/
def SpecAt (P : Program) (f : FuncId) (h0 : Heap) (args : List E) (Q : Heap → (Nat → Nat) → E → Prop) (cnt : Nat → Nat) : Prop :=
  ∀ (w : World) (A : Nat → Nat → Prop) (φ : Id → Nat × Nat) (cs : Array Value),
    HRel (ctxOf w A h0 φ cnt).own (Ok (ctxOf w A h0 φ cnt) h0 φ) h0 cnt φ w → (∀ id blk, h0 id = some blk → blk.excl = true) →
    cs.size = args.length → (∀ (j : Nat) (hj : j < args.length), RepE cnt φ (Ok (ctxOf w A h0 φ cnt) h0 φ) w (at_ cs j) args[j]) →
    Calls P f cs w fun (e : Ending) (w' : World) => ∃ (v : Value) (cnt' : Nat → Nat) (φ' : Id → Nat × Nat) (h1 : Heap) (r : E), e = .returned v ∧ Q h1 cnt' r ∧ (∀ d, cnt d ≤ cnt' d) ∧ (∀ id : Id, id.2 < cnt id.1 → φ' id = φ id) ∧
      HRel (ctxOf w A h0 φ cnt).own (Ok (ctxOf w A h0 φ cnt) h1 φ') h1 cnt' φ' w' ∧ RepE cnt' φ' (Ok (ctxOf w A h0 φ cnt) h1 φ') w' v r ∧
      (∀ b, b < w.heap.size → ¬ lentOf h0 φ b → w'.heap[b]? = w.heap[b]?) ∧ w.heap.size ≤ w'.heap.size ∧
      (∀ (b : Nat) (arr : Array Value) (T : TypeId) (fr : Nat × Nat), w.heap[b]? = some (Obj.cells arr T fr) → ∃ (arr' : Array Value) (fr' : Nat × Nat), w'.heap[b]? = some (Obj.cells arr' T fr') ∧ arr'.size = arr.size) ∧
      (∀ id blk, h1 id = some blk → (∃ blk0, h0 id = some blk0) ∨ cnt id.1 ≤ id.2) ∧ SameOut w w'

def Spec (P : Program) (f : FuncId) (h0 : Heap) (args : List E) (Q : Heap → E → Prop) : Prop := ∀ cnt, SpecAt P f h0 args (fun h1 _ r => Q h1 r) cnt

def noHeap : Heap := fun _ => none

mutual
def E.noRef : E → Bool
  | .ptr _ _ => false
  | .sl _ _ _ _ => false
  | .agg cs => noRefs cs
  | .tup cs => noRefs cs
  | .fn _ cs => noRefs cs
  | _ => true
def noRefs : List E → Bool
  | [] => true
  | e :: r => e.noRef && noRefs r
end

def noRefH (h : Heap) : Prop := ∀ id b, h id = some b → noRefs b.cells = true

theorem noRefs_get : ∀ {es : List E}, noRefs es = true → ∀ (j : Nat) (hj : j < es.length), es[j].noRef = true
  | [], _, j, hj => by simp at hj
  | e :: r, h, j, hj => by
    simp only [noRefs, Bool.and_eq_true] at h
    cases j with
    | zero => exact h.1
    | succ j => exact noRefs_get h.2 j (by simpa using hj)

/-- A value without names of blocks hangs on no name. -/
theorem RepE.rename {cnt cnt' : Nat → Nat} {φ φ' : Id → Nat × Nat} {A A' : Nat → Nat → Prop} {w w' : World} (hk : Keeps A w A' w') {c : Value} {e : E} (h : RepE cnt φ A w c e) (hn : e.noRef = true) :
    RepE cnt' φ' A' w' c e := by
  induction h with
  | p h => exact .p (h.mono hk)
  | nil => exact .nil
  | ptr off h1 h2 => simp [E.noRef] at hn
  | pp hb hfit hA ho hcs =>
    obtain ⟨a', f', h', s', k'⟩ := hk _ _ _ _ hb
    refine .pp h' (by omega) (fun j hj => (k' _ (hA j hj)).1) (fun j hj => by rw [(k' _ (hA j hj)).2]; exact ho j hj) (fun j hj => ?_)
    rw [(k' _ (hA j hj)).2]; exact (hcs j hj).mono hk
  | sl off len cap h1 h2 h3 h4 h5 h6 => simp [E.noRef] at hn
  | agg hs ho _ ih => simp only [E.noRef] at hn; exact .agg hs ho fun j hj => ih j hj (noRefs_get hn j hj)
  | tup hs _ ih => simp only [E.noRef] at hn; exact .tup hs fun j hj => ih j hj (noRefs_get hn j hj)
  | fn hs _ ih => simp only [E.noRef] at hn; exact .fn hs fun j hj => ih j hj (noRefs_get hn j hj)
  | dead c => exact .dead c

def P.scalar : P → Bool
  | .int _ _ => true
  | .bool _ => true
  | .str _ => true
  | .list _ cs => cs.isEmpty
  | _ => false
mutual
def E.scalar : E → Bool
  | .p x => x.scalar
  | .tup cs => scalars cs
  | .nil => true
  | _ => false
def scalars : List E → Bool
  | [] => true
  | e :: r => e.scalar && scalars r
end
theorem scalars_get : ∀ {es : List E}, scalars es = true → ∀ (j : Nat) (hj : j < es.length), es[j].scalar = true
  | [], _, j, hj => by simp at hj
  | e :: r, h, j, hj => by
    simp only [scalars, Bool.and_eq_true] at h
    cases j with
    | zero => exact h.1
    | succ j => exact scalars_get h.2 j (by simpa using hj)

theorem RepP.scalar_any {A A' : Nat → Nat → Prop} {w w' : World} {c : Value} {x : P} (h : RepP A w c x) (hs : x.scalar = true) : RepP A' w' c x := by
  cases h with
  | int k n => exact .int k n
  | bool b => exact .bool b
  | str l => exact .str l
  | empty a cap sz => exact .empty a cap sz
  | list h1 h2 h3 h4 h5 h6 h7 h8 =>
    rename_i b off len cap sz cs arr T fr
    have : cs = [] := by simpa [P.scalar] using hs
    subst this
    have : len = 0 := by
      rcases Nat.eq_zero_or_pos len with h | h
      · exact h
      · have := Nat.mul_pos h h2; simp at h3; omega
    subst this
    exact .empty _ _ _
  | agg h1 h2 h3 => simp [P.scalar] at hs

theorem RepE.scalar_any {cnt cnt' : Nat → Nat} {φ φ' : Id → Nat × Nat} {A A' : Nat → Nat → Prop} {w w' : World} {c : Value} {e : E} (h : RepE cnt φ A w c e) (hs : e.scalar = true) :
    RepE cnt' φ' A' w' c e := by
  induction h with
  | p h => exact .p (h.scalar_any (by simpa [E.scalar] using hs))
  | nil => exact .nil
  | tup h1 _ ih => simp only [E.scalar] at hs; exact .tup h1 fun j hj => ih j hj (scalars_get hs j hj)
  | _ => simp [E.scalar] at hs

section
variable {P : Program} {C : Ctx} {s : St} {φ : Id → Nat × Nat} {a : Act} {w : World}

theorem SimAt.own_of (h : SimAt C s φ a w) {b : Nat} (hb : w.heap.size ≤ b) : C.own b := .inl (Nat.le_trans h.grew hb)

/-- A call that is lent nothing and gives nothing back but plain values: the caller's state is what it was. -/
theorem callQ_run {g : FuncId} {xs : List E} {r : E} {cs : Array Value} (h : SimAt C s φ a w) {B : Nat → Nat → Prop}
    (hB : (B = Ok C s.heap φ) ∨ r.scalar = true) (hxs : ∀ (j : Nat) (hj : j < xs.length), RepE s.cnt φ B w (at_ cs j) xs[j]) (hsz : cs.size = xs.length) (hn : ∀ (j : Nat) (hj : j < xs.length), xs[j].noRef = true) (hr : r.noRef = true)
    (hspec : Spec P g noHeap xs fun _ r' => r' = r) (d : Option Tmp) :
    Calls P g cs w fun e w' => ∃ v, e = .returned v ∧ SimAt C (s.set d r) φ (a.put d v) w' := by
  have hU : ∀ ψ b i, ¬ U noHeap ψ b i := by rintro ψ b i ⟨id, blk, hb, _⟩; simp [noHeap] at hb
  have hL : ∀ ψ b, ¬ lentOf noHeap ψ b := by rintro ψ b ⟨id, blk, hb, _⟩; simp [noHeap] at hb
  have hown : ∀ b, (ctxOf w B noHeap φ s.cnt).own b ↔ w.heap.size ≤ b := fun b => ⟨fun hb => hb.resolve_right (hL φ b), .inl⟩
  refine (hspec s.cnt w B φ cs ⟨fun id blk hb => by simp [noHeap] at hb, fun id id' b b' hb => by simp [noHeap] at hb⟩ (fun id blk hb => by simp [noHeap] at hb) hsz fun j hj => ?_).mono ?_
  · refine (hxs j hj).rename ?_ (hn j hj)
    intro b arr T fr hb
    refine ⟨arr, fr, hb, rfl, fun i hi => ⟨.inr ⟨fun ho => ?_, hi⟩, rfl⟩⟩
    have := (hown b).1 ho
    have := lt_of_row hb
    omega
  · rintro e w' ⟨v, cnt', φ', h1, r', rfl, rfl, c1, c2, c3, c4, c5, c6, c7, c8, c9⟩
    refine ⟨v, rfl, ?_⟩
    have hold : ∀ b, b < w.heap.size → w'.heap[b]? = w.heap[b]? := fun b hb => c5 b hb (hL φ b)
    have hk : Keeps (Ok C s.heap φ) w (Ok C s.heap φ) w' := fun b arr T fr hb => ⟨arr, fr, by rw [hold b (lt_of_row hb)]; exact hb, rfl, fun i hi => ⟨hi, rfl⟩⟩
    have hsim : SimAt C s φ a w' := by
      have := h.evolve (h' := s.heap) (cnt' := s.cnt) (φ' := φ) (fun _ => Nat.le_refl _) (fun _ _ => rfl) hk
        ⟨fun id b hb => (h.heap.blk id b hb).mono (fun _ => Nat.le_refl _) (fun _ _ => rfl) hk fun arr T fr hr' => ⟨arr, fr, by rw [hold _ (h.blk_lt hb)]; exact hr', rfl, fun _ _ q => q, fun _ _ => rfl⟩, h.heap.inj⟩
        (fun b hb _ => hold b (Nat.lt_of_lt_of_le hb h.grew)) c6 c9
      exact this
    refine hsim.set ?_
    rcases hB with rfl | hs
    · refine c4.rename ?_ hr
      intro b arr T fr hb
      refine ⟨arr, fr, hb, rfl, fun i hi => ⟨?_, rfl⟩⟩
      rcases hi with ⟨q1, q2⟩ | ⟨q1, q2⟩
      · have hge := (hown b).1 q1
        refine .inl ⟨h.own_of hge, ?_⟩
        rintro ⟨id, blk, g1, g2, g3⟩
        have := h.blk_lt g1
        omega
      · exact q2
    · exact c4.scalar_any hs

end
end Go.Vm
