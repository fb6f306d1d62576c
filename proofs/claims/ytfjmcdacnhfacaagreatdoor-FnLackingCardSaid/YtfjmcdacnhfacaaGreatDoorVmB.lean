/- The abstract states, and how a frame and a world are one of them. No condition. -/
import Derived.Test.YtfjmcdacnhfacaaGreatDoorVmA
set_option linter.all false
namespace Go.Vm
open Go

/-- A block of the function's own. excl: nobody else looks at its cells; else its cells stay, and it may only grow. -/
structure Blk where
  excl : Bool
  cells : List E

abbrev Heap := Id → Option Blk

structure St where
  env : Nat → E
  heap : Heap
  cnt : Nat → Nat

def upd {α : Type} (f : Nat → α) (i : Nat) (v : α) : Nat → α := fun j => if j = i then v else f j
def updI {α : Type} (f : Id → α) (i : Id) (v : α) : Id → α := fun j => if j = i then v else f j

def St.set (s : St) (d : Option Tmp) (e : E) : St :=
  match d with
  | some t => { s with env := upd s.env t e }
  | none => s

/-- Where a call began: the world, what may be looked at there, and the blocks that the caller lent. -/
structure Ctx where
  w0 : World
  A0 : Nat → Nat → Prop
  lent : Nat → Prop
  cnt0 : Nat → Nat
  phi0 : Id → Nat × Nat

def Ctx.own (C : Ctx) (b : Nat) : Prop := C.w0.heap.size ≤ b ∨ C.lent b

def U (h : Heap) (φ : Id → Nat × Nat) (b i : Nat) : Prop :=
  ∃ id blk, h id = some blk ∧ (φ id).1 = b ∧ (blk.excl = true ∨ (φ id).2 + blk.cells.length ≤ i)

def Ok (C : Ctx) (h : Heap) (φ : Id → Nat × Nat) (b i : Nat) : Prop := (C.own b ∧ ¬ U h φ b i) ∨ (¬ C.own b ∧ C.A0 b i)

structure BlkRel (own : Nat → Prop) (A : Nat → Nat → Prop) (cnt : Nat → Nat) (φ : Id → Nat × Nat) (w : World) (id : Id) (blk : Blk) : Prop where
  below : id.2 < cnt id.1
  own : own (φ id).1
  row : ∃ arr T fr, w.heap[(φ id).1]? = some (.cells arr T fr) ∧ (φ id).2 + blk.cells.length ≤ arr.size ∧ (∀ i, i < arr.size → ¬ (fr.1 ≤ i ∧ i < fr.2)) ∧
    (∀ (j : Nat) (hj : j < blk.cells.length), (at_ arr ((φ id).2 + j)).oneCell' = true) ∧
    ∀ (j : Nat) (hj : j < blk.cells.length), RepE cnt φ A w (at_ arr ((φ id).2 + j)) blk.cells[j]

structure HRel (own : Nat → Prop) (A : Nat → Nat → Prop) (h : Heap) (cnt : Nat → Nat) (φ : Id → Nat × Nat) (w : World) : Prop where
  blk : ∀ id b, h id = some b → BlkRel own A cnt φ w id b
  inj : ∀ id id' b b', h id = some b → h id' = some b' → (φ id).1 = (φ id').1 → id = id'

/-- What the world says outside is as it was. -/
def SameOut (w w' : World) : Prop := w'.os = w.os ∧ w'.output = w.output
theorem SameOut.refl {w : World} : SameOut w w := ⟨rfl, rfl⟩
theorem SameOut.trans {w w' w'' : World} (h : SameOut w w') (h' : SameOut w' w'') : SameOut w w'' := ⟨h'.1.trans h.1, h'.2.trans h.2⟩

structure SimAt (C : Ctx) (s : St) (φ : Id → Nat × Nat) (a : Act) (w : World) : Prop where
  heap : HRel C.own (Ok C s.heap φ) s.heap s.cnt φ w
  slots : ∀ t, t < a.tmps.size → RepE s.cnt φ (Ok C s.heap φ) w (at_ a.tmps t) (s.env t)
  low : ∀ b, b < C.w0.heap.size → ¬ C.lent b → w.heap[b]? = C.w0.heap[b]?
  grew : C.w0.heap.size ≤ w.heap.size
  lentLow : ∀ b, C.lent b → b < C.w0.heap.size
  rows : ∀ (b : Nat) (arr : Array Value) (T : TypeId) (fr : Nat × Nat), C.w0.heap[b]? = some (Obj.cells arr T fr) → ∃ (arr' : Array Value) (fr' : Nat × Nat), w.heap[b]? = some (Obj.cells arr' T fr') ∧ arr'.size = arr.size
  cntLe : ∀ d, C.cnt0 d ≤ s.cnt d
  phi : ∀ id : Id, id.2 < C.cnt0 id.1 → φ id = C.phi0 id
  defers : a.defers = []
  out : SameOut C.w0 w

def Sim (C : Ctx) (s : St) (a : Act) (w : World) : Prop := ∃ φ, SimAt C s φ a w

/-- The value of an operand. -/
def absV1 : Value → E
  | .int k n => .p (.int k n)
  | .bool b => .p (.bool b)
  | .string s => .p (.str s.data.toList)
  | .slice none 0 0 => .nil
  | .tuple #[] => .tup []
  | _ => .dead
def absV : Value → E
  | .agg arr => if arr.all (·.oneCell') = true then mkAgg (arr.toList.map absV1) else .dead
  | v => absV1 v

def St.val (s : St) : Operand → E
  | .tmp t => s.env t
  | .const v => absV v
  | .global _ => .dead
  | .func f => .fn f []

theorem absV1_rep {cnt : Nat → Nat} {φ : Id → Nat × Nat} {A : Nat → Nat → Prop} {w : World} (v : Value) : RepE cnt φ A w v (absV1 v) := by
  cases v with
  | int k n => exact .p (.int _ _)
  | bool b => exact .p (.bool _)
  | string s =>
    have := RepP.str (A := A) (w := w) s.data.toList
    exact .p (by simpa [absV1] using this)
  | slice a l c =>
    cases a with
    | some a => exact .dead _
    | none =>
      cases l with
      | succ l => exact .dead _
      | zero =>
        cases c with
        | succ c => exact .dead _
        | zero => exact .nil
  | tuple vs =>
    obtain ⟨l⟩ := vs
    cases l with
    | nil => exact .tup rfl (fun j hj => by simp at hj)
    | cons x r => exact .dead _
  | _ => exact .dead _

theorem absV_rep {cnt : Nat → Nat} {φ : Id → Nat × Nat} {A : Nat → Nat → Prop} {w : World} (v : Value) : RepE cnt φ A w v (absV v) := by
  cases v with
  | agg arr =>
    have e0 : absV (.agg arr) = if arr.all (·.oneCell') = true then mkAgg (arr.toList.map absV1) else .dead := rfl
    rw [e0]
    by_cases hall : arr.all (·.oneCell') = true
    · rw [if_pos hall]
      refine RepE.mkAgg (by simp) (fun j hj => ?_) (fun j hj => ?_)
      · have hj' : j < arr.size := by simpa using hj
        have h2 := (Array.all_eq_true.1 hall) j hj'
        have e1 : at_ arr j = arr[j] := by simp [at_, hj']
        rw [e1]; exact h2
      · have hj' : j < arr.size := by simpa using hj
        have e : (arr.toList.map absV1)[j] = absV1 (at_ arr j) := by simp [at_, hj']
        rw [e]; exact absV1_rep _
    · rw [if_neg hall]; exact .dead _
  | _ => exact absV1_rep _

/-- The operands of an operation lie among the slots. -/
def inSlots (n : Nat) : Operand → Bool
  | .tmp t => decide (t < n)
  | _ => true

theorem SimAt.val {C : Ctx} {s : St} {φ : Id → Nat × Nat} {a : Act} {w : World} (h : SimAt C s φ a w) {x : Operand} (hx : inSlots a.tmps.size x = true) :
    RepE s.cnt φ (Ok C s.heap φ) w (a.eval x) (s.val x) := by
  cases x with
  | tmp t => exact h.slots t (by simpa [inSlots] using hx)
  | const v => exact absV_rep v
  | global g => exact .dead _
  | func f => exact .fn rfl (fun j hj => by simp at hj)

theorem SimAt.set {C : Ctx} {s : St} {φ : Id → Nat × Nat} {a : Act} {w : World} (h : SimAt C s φ a w) {d : Option Tmp} {v : Value} {e : E}
    (hv : RepE s.cnt φ (Ok C s.heap φ) w v e) : SimAt C (s.set d e) φ (a.put d v) w := by
  cases d with
  | none => exact h
  | some d =>
    refine ⟨h.heap, fun t ht => ?_, h.low, h.grew, h.lentLow, h.rows, h.cntLe, h.phi, h.defers, h.out⟩
    simp only [Act.put, Array.size_setIfInBounds] at ht
    simp only [Act.put, St.set, upd]
    by_cases htd : t = d
    · subst htd
      have : at_ (a.tmps.setIfInBounds t v) t = v := by simp [at_, ht]
      rw [this]; simpa using hv
    · have : at_ (a.tmps.setIfInBounds d v) t = at_ a.tmps t := by
        simp [at_, Array.getElem?_setIfInBounds_ne (Ne.symm htd)]
      rw [this]; simpa [htd] using h.slots t ht

/-- The next world of a step that keeps what may be looked at. -/
theorem SimAt.evolve {C : Ctx} {s : St} {φ φ' : Id → Nat × Nat} {a : Act} {w w' : World} {h' : Heap} {cnt' : Nat → Nat} (h : SimAt C s φ a w)
    (hc : ∀ d, s.cnt d ≤ cnt' d) (hφ : ∀ id : Id, id.2 < s.cnt id.1 → φ' id = φ id) (hk : Keeps (Ok C s.heap φ) w (Ok C h' φ') w')
    (hh : HRel C.own (Ok C h' φ') h' cnt' φ' w') (hlow : ∀ b, b < C.w0.heap.size → ¬ C.lent b → w'.heap[b]? = w.heap[b]?) (hgrew : w.heap.size ≤ w'.heap.size) (ho : SameOut w w') :
    SimAt C { s with heap := h', cnt := cnt' } φ' a w' :=
  ⟨hh, fun t ht => (h.slots t ht).mono hc hφ hk, fun b hb hl => (hlow b hb hl).trans (h.low b hb hl), Nat.le_trans h.grew hgrew, h.lentLow,
    fun b arr T fr hb => by
      obtain ⟨a1, f1, g1, g2⟩ := h.rows b arr T fr hb
      obtain ⟨a2, f2, g3, g4, _⟩ := hk b a1 T f1 g1
      exact ⟨a2, f2, g3, by omega⟩,
    fun d => Nat.le_trans (h.cntLe d) (hc d), fun id hid => (hφ id (Nat.lt_of_lt_of_le hid (h.cntLe _))).trans (h.phi id hid), h.defers, h.out.trans ho⟩

theorem BlkRel.mono {own : Nat → Prop} {A A' : Nat → Nat → Prop} {cnt cnt' : Nat → Nat} {φ φ' : Id → Nat × Nat} {w w' : World} {id : Id} {blk : Blk}
    (h : BlkRel own A cnt φ w id blk) (hc : ∀ d, cnt d ≤ cnt' d) (hφ : ∀ id : Id, id.2 < cnt id.1 → φ' id = φ id) (hk : Keeps A w A' w')
    (hrow : ∀ arr T fr, w.heap[(φ id).1]? = some (.cells arr T fr) → ∃ arr' fr', w'.heap[(φ id).1]? = some (.cells arr' T fr') ∧ arr'.size = arr.size ∧
      (∀ i, i < arr'.size → ¬ (fr.1 ≤ i ∧ i < fr.2) → ¬ (fr'.1 ≤ i ∧ i < fr'.2)) ∧ ∀ j, j < blk.cells.length → at_ arr' ((φ id).2 + j) = at_ arr ((φ id).2 + j)) :
    BlkRel own A' cnt' φ' w' id blk := by
  obtain ⟨hb, ho, arr, T, fr, h1, h2, h3, h5, h4⟩ := h
  have e := hφ id hb
  obtain ⟨arr', fr', g1, g2, g3, g4⟩ := hrow arr T fr h1
  refine ⟨Nat.lt_of_lt_of_le hb (hc _), by rw [e]; exact ho, arr', T, fr', by rw [e]; exact g1, by rw [e]; omega, fun i hi => g3 i hi (h3 i (by omega)), fun j hj => by rw [e, g4 j hj]; exact h5 j hj, fun j hj => ?_⟩
  rw [e, g4 j hj]
  exact (h4 j hj).mono hc hφ hk

end Go.Vm
