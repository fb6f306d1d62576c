/- The values of the abstract states: pure data P, slot values E; what they mean in a world; that this is kept where the cells are kept. No condition. -/
import Derived.Calls
import Derived.Orders
import Derived.Laws.Sem
import Derived.Laws.Cells
import Derived.Lib.FrozenHead
set_option linter.all false
namespace Go.Vm
open Go

inductive P where
  | int (k : IntKind) (n : Int)
  | bool (b : Bool)
  | str (s : List UInt8)
  | list (sz : Nat) (cs : List P)
  | agg (cs : List P)
  deriving Inhabited

abbrev Id := Nat × Nat

inductive E where
  | p (x : P)
  | nil
  | ptr (b : Id) (off : Nat)
  | pp (cs : List P)
  | sl (b : Id) (sz off len : Nat)
  | agg (cs : List E)
  | tup (vs : List E)
  | fn (f : FuncId) (caps : List E)
  | dead
  deriving Inhabited

/-- The value read at place i of a row of cells. -/
abbrev at_ (a : Array Value) (i : Nat) : Value := a.getD i undef

inductive RepP (A : Nat → Nat → Prop) (w : World) : Value → P → Prop
  | int (k : IntKind) (n : Int) : RepP A w (.int k n) (.int k n)
  | bool (b : Bool) : RepP A w (.bool b) (.bool b)
  | str (l : List UInt8) : RepP A w (.string ⟨l.toArray⟩) (.str l)
  | empty (a : Option Addr) (cap sz : Nat) : RepP A w (.slice a 0 cap) (.list sz [])
  | list {b off len cap sz : Nat} {cs : List P} {arr : Array Value} {T : TypeId} {fr : Nat × Nat} :
      w.heap[b]? = some (.cells arr T fr) → 0 < sz → cs.length = len * sz → len ≤ cap → off + cs.length ≤ arr.size →
      (∀ (j : Nat) (h : j < cs.length), A b (off + j)) → (∀ (j : Nat) (h : j < cs.length), (at_ arr (off + j)).oneCell' = true) →
      (∀ (j : Nat) (h : j < cs.length), RepP A w (at_ arr (off + j)) cs[j]) →
      RepP A w (.slice (some ⟨b, off, none⟩) len cap) (.list sz cs)
  | agg {arr : Array Value} {cs : List P} : arr.size = cs.length → (∀ (j : Nat) (h : j < cs.length), (at_ arr j).oneCell' = true) →
      (∀ (j : Nat) (h : j < cs.length), RepP A w (at_ arr j) cs[j]) → RepP A w (.agg arr) (.agg cs)

inductive RepE (cnt : Nat → Nat) (φ : Id → Nat × Nat) (A : Nat → Nat → Prop) (w : World) : Value → E → Prop
  | p {c : Value} {x : P} : RepP A w c x → RepE cnt φ A w c (.p x)
  | nil : RepE cnt φ A w (.slice none 0 0) .nil
  | ptr {id : Id} {b base : Nat} (off : Nat) : id.2 < cnt id.1 → φ id = (b, base) → RepE cnt φ A w (.pointer (some ⟨b, base + off, none⟩)) (.ptr id off)
  | pp {b off : Nat} {cs : List P} {arr : Array Value} {T : TypeId} {fr : Nat × Nat} :
      w.heap[b]? = some (.cells arr T fr) → off + cs.length ≤ arr.size →
      (∀ (j : Nat) (h : j < cs.length), A b (off + j)) → (∀ (j : Nat) (h : j < cs.length), (at_ arr (off + j)).oneCell' = true) →
      (∀ (j : Nat) (h : j < cs.length), RepP A w (at_ arr (off + j)) cs[j]) →
      RepE cnt φ A w (.pointer (some ⟨b, off, none⟩)) (.pp cs)
  | sl {id : Id} {b base : Nat} {sz : Nat} (off len cap : Nat) {arr : Array Value} {T : TypeId} {fr : Nat × Nat} :
      id.2 < cnt id.1 → φ id = (b, base) → 0 < sz → len ≤ cap → w.heap[b]? = some (.cells arr T fr) → base + off + cap * sz ≤ arr.size →
      RepE cnt φ A w (.slice (some ⟨b, base + off, none⟩) len cap) (.sl id sz off len)
  | agg {arr : Array Value} {cs : List E} : arr.size = cs.length → (∀ (j : Nat) (h : j < cs.length), (at_ arr j).oneCell' = true) →
      (∀ (j : Nat) (h : j < cs.length), RepE cnt φ A w (at_ arr j) cs[j]) → RepE cnt φ A w (.agg arr) (.agg cs)
  | tup {arr : Array Value} {cs : List E} : arr.size = cs.length → (∀ (j : Nat) (h : j < cs.length), RepE cnt φ A w (at_ arr j) cs[j]) → RepE cnt φ A w (.tuple arr) (.tup cs)
  | fn {f : FuncId} {arr : Array Value} {cs : List E} : arr.size = cs.length → (∀ (j : Nat) (h : j < cs.length), RepE cnt φ A w (at_ arr j) cs[j]) → RepE cnt φ A w (.func (.func f) #[] arr) (.fn f cs)
  | dead (c : Value) : RepE cnt φ A w c .dead

/-- What is allowed stays as it is, and allowed; rows of cells stay rows of as many cells. -/
def Keeps (A : Nat → Nat → Prop) (w : World) (A' : Nat → Nat → Prop) (w' : World) : Prop :=
  ∀ b arr T fr, w.heap[b]? = some (.cells arr T fr) → ∃ arr' fr', w'.heap[b]? = some (.cells arr' T fr') ∧ arr'.size = arr.size ∧
    ∀ i, A b i → A' b i ∧ at_ arr' i = at_ arr i

theorem Keeps.refl {A A' : Nat → Nat → Prop} {w : World} (h : ∀ b i, A b i → A' b i) : Keeps A w A' w :=
  fun b arr _ fr hb => ⟨arr, fr, hb, rfl, fun i hi => ⟨h b i hi, rfl⟩⟩

theorem Keeps.trans {A A' A'' : Nat → Nat → Prop} {w w' w'' : World} (h : Keeps A w A' w') (h' : Keeps A' w' A'' w'') : Keeps A w A'' w'' := by
  intro b arr T fr hb
  obtain ⟨a1, f1, h1, s1, k1⟩ := h b arr T fr hb
  obtain ⟨a2, f2, h2, s2, k2⟩ := h' b a1 T f1 h1
  exact ⟨a2, f2, h2, s2.trans s1, fun i hi => ⟨(k2 i (k1 i hi).1).1, (k2 i (k1 i hi).1).2.trans (k1 i hi).2⟩⟩

theorem RepP.mono {A A' : Nat → Nat → Prop} {w w' : World} (hk : Keeps A w A' w') {c : Value} {x : P} (h : RepP A w c x) : RepP A' w' c x := by
  induction h with
  | int k n => exact .int k n
  | bool b => exact .bool b
  | str l => exact .str l
  | empty a cap sz => exact .empty a cap sz
  | list hb hsz hlen hcap hfit hA ho hc ih =>
    obtain ⟨a', f', h', s', k'⟩ := hk _ _ _ _ hb
    refine .list h' hsz hlen hcap (by omega) (fun j hj => (k' _ (hA j hj)).1) (fun j hj => ?_) (fun j hj => ?_)
    · rw [(k' _ (hA j hj)).2]; exact ho j hj
    · rw [(k' _ (hA j hj)).2]; exact ih j hj
  | agg hs ho hc ih => exact .agg hs ho ih

theorem RepE.mono {cnt cnt' : Nat → Nat} {φ φ' : Id → Nat × Nat} {A A' : Nat → Nat → Prop} {w w' : World} (hc : ∀ d, cnt d ≤ cnt' d)
    (hφ : ∀ id : Id, id.2 < cnt id.1 → φ' id = φ id) (hk : Keeps A w A' w') {c : Value} {e : E} (h : RepE cnt φ A w c e) : RepE cnt' φ' A' w' c e := by
  induction h with
  | p h => exact .p (h.mono hk)
  | nil => exact .nil
  | ptr off h1 h2 => exact .ptr off (Nat.lt_of_lt_of_le h1 (hc _)) ((hφ _ h1).trans h2)
  | pp hb hfit hA ho hcs =>
    obtain ⟨a', f', h', s', k'⟩ := hk _ _ _ _ hb
    refine .pp h' (by omega) (fun j hj => (k' _ (hA j hj)).1) (fun j hj => by rw [(k' _ (hA j hj)).2]; exact ho j hj) (fun j hj => ?_)
    rw [(k' _ (hA j hj)).2]; exact (hcs j hj).mono hk
  | sl off len cap h1 h2 h3 h4 h5 h6 =>
    obtain ⟨a', f', h', s', k'⟩ := hk _ _ _ _ h5
    exact .sl off len cap (Nat.lt_of_lt_of_le h1 (hc _)) ((hφ _ h1).trans h2) h3 h4 h' (by omega)
  | agg hs ho _ ih => exact .agg hs ho ih
  | tup hs _ ih => exact .tup hs ih
  | fn hs _ ih => exact .fn hs ih
  | dead c => exact .dead c

/-- The single cells of a slot value. -/
def E.cells : E → Option (List E)
  | .p (.agg cs) => some (cs.map .p)
  | .agg cs => some cs
  | .tup _ => none
  | .dead => none
  | e => some [e]

def allP : List E → Option (List P)
  | [] => some []
  | .p x :: r => (allP r).map (x :: ·)
  | _ :: _ => none

def mkAgg (es : List E) : E := match allP es with | some ps => .p (.agg ps) | none => .agg es

theorem allP_spec : ∀ {es : List E} {ps : List P}, allP es = some ps → es = ps.map .p
  | [], ps, h => by simp [allP] at h; subst h; rfl
  | e :: r, ps, h => by
    cases e <;> simp [allP] at h
    obtain ⟨q, hq, rfl⟩ := h
    simp [allP_spec hq]

@[simp] theorem allP_map (ps : List P) : allP (ps.map .p) = some ps := by
  induction ps with
  | nil => rfl
  | cons a r ih => simp [allP, ih]

section
variable {cnt : Nat → Nat} {φ : Id → Nat × Nat} {A : Nat → Nat → Prop} {w : World}

theorem RepE.p_inv {c : Value} {x : P} (h : RepE cnt φ A w c (.p x)) : RepP A w c x := by cases h; assumption

theorem RepE.mkAgg {arr : Array Value} {es : List E} (hs : arr.size = es.length) (ho : ∀ (j : Nat) (hj : j < es.length), (at_ arr j).oneCell' = true)
    (h : ∀ (j : Nat) (hj : j < es.length), RepE cnt φ A w (at_ arr j) es[j]) : RepE cnt φ A w (.agg arr) (mkAgg es) := by
  unfold Vm.mkAgg
  split
  · rename_i ps hps
    have := allP_spec hps
    subst this
    refine .p (.agg (by simpa using hs) (fun j hj => ho j (by simpa using hj)) fun j hj => ?_)
    have := h j (by simpa using hj)
    simp only [List.getElem_map] at this
    exact this.p_inv
  · exact .agg hs ho h

/-- The cells of a value lie as the cells of what it means. -/
theorem RepE.cells {c : Value} {e : E} {es : List E} (h : RepE cnt φ A w c e) (he : e.cells = some es) :
    c.cells.size = es.length ∧ (∀ (j : Nat) (hj : j < es.length), (at_ c.cells j).oneCell' = true) ∧ (∀ (j : Nat) (hj : j < es.length), RepE cnt φ A w (at_ c.cells j) es[j]) := by
  have one : ∀ (c : Value) (e : E), c.cells = #[c] → c.oneCell' = true → RepE cnt φ A w c e →
      c.cells.size = [e].length ∧ (∀ (j : Nat) (hj : j < [e].length), (at_ c.cells j).oneCell' = true) ∧ (∀ (j : Nat) (hj : j < [e].length), RepE cnt φ A w (at_ c.cells j) [e][j]) := by
    intro c e hc h1 h
    rw [hc]
    refine ⟨rfl, fun j hj => ?_, fun j hj => ?_⟩
    all_goals
      have : j = 0 := by simpa using hj
      subst this
    · simpa [at_] using h1
    · simpa [at_] using h
  cases h with
  | p h =>
    cases h with
    | agg hs ho hcs =>
      simp [E.cells] at he; subst he
      refine ⟨by simpa [Value.cells] using hs, fun j hj => ho j (by simpa using hj), fun j hj => ?_⟩
      simp only [List.getElem_map]
      exact .p (hcs j (by simpa using hj))
    | list => simp [E.cells] at he; subst he; exact one _ _ rfl rfl (.p (by constructor <;> assumption))
    | _ => simp [E.cells] at he; subst he; exact one _ _ rfl rfl (.p (by constructor))
  | agg hs ho hcs => simp [E.cells] at he; subst he; exact ⟨hs, ho, hcs⟩
  | tup hs hcs => simp [E.cells] at he
  | dead c => simp [E.cells] at he
  | nil => simp [E.cells] at he; subst he; exact one _ _ rfl rfl .nil
  | ptr off h1 h2 => simp [E.cells] at he; subst he; exact one _ _ rfl rfl (.ptr off h1 h2)
  | pp h1 h2 h3 h4 h5 => simp [E.cells] at he; subst he; exact one _ _ rfl rfl (.pp h1 h2 h3 h4 h5)
  | sl off len cap h1 h2 h3 h4 h5 h6 => simp [E.cells] at he; subst he; exact one _ _ rfl rfl (.sl off len cap h1 h2 h3 h4 h5 h6)
  | fn hs hcs => simp [E.cells] at he; subst he; exact one _ _ rfl rfl (.fn hs hcs)

end
end Go.Vm
