/- One operation of a region over abstract states; that the machine does just this. No condition. -/
import Derived.Test.YtfjmcdacnhfacaaGreatDoorVmL
set_option linter.all false
namespace Go.Vm
open Go

def evalV (P : Program) (val : Operand → E) (h : Heap) : Op → Option E
  | .build t parts => buildE P t (parts.toList.map fun x => (x.1, val x.2))
  | .convert src dst x => match convE P src dst (val x) with
    | some e => some e
    | none => textE P src dst h (val x)
  | op => evalS P val h op

def evalW (P : Program) (nm : Nat) (s : St) (o : Oper) : Option St :=
  match o.op with
  | .store t x v => (storeE P t s (s.val x) (s.val v)).map fun s1 => s1.set o.dst (.tup [])
  | .call { callee := .builtin .append, args, argTypes } =>
    match args.toList, argTypes.toList with
    | [x, y], [t0, t1] => appendE P t0 t1 nm o.dst s (s.val x) (s.val y)
    | _, _ => none
  | .call { callee := .builtin .copy, args, argTypes } =>
    match args.toList, argTypes.toList with
    | [x, y], [t0, t1] => copyE P t0 t1 o.dst s (s.val x) (s.val y)
    | _, _ => none
  | .call { callee := .builtin .clear, args, argTypes } =>
    match args.toList, argTypes.toList with
    | [x], [t] => clearE P t o.dst s (s.val x)
    | _, _ => none
  | _ => none

def subH (h h' : Heap) : Prop := ∀ id b, h id = some b → h' id = some b
def onlyName (d : Nat) (h : Heap) : Heap := fun id => if id.1 = d then h id else none
def onlyId (i : Id) (h : Heap) : Heap := fun id => if id = i then h id else none

/-- Whether an operation is wanted: nothing where that can't be told. -/
def wantedE (ops : Array Oper) (s : St) (o : Oper) : Option Bool :=
  match o.guard with
  | none => some true
  | some (j, want) =>
    match (ops[j]?).bind (·.dst) with
    | some d => match s.env d with
      | .p (.bool b) => some (b == want)
      | .tup _ => some false
      | _ => none
    | none => none

structure Callable (P : Program) (g : FuncId) : Prop where
  ex : ∃ fn, P.funcs[g]? = some fn ∧ (fn.name == "runtime.NumGoroutine") = false ∧ fn.body.isNone = false

def ConvL (h : Heap) (ok : Id → Prop) (es xs : List E) : Prop := es.length = xs.length ∧ ∀ (j : Nat) (h1 : j < es.length) (h2 : j < xs.length), Conv h ok es[j] xs[j]

/-- The values that a call hands on. -/
def callArgs (s : St) (args : Array Operand) (caps : List E) : List E := args.toList.map s.val ++ caps

/-- A call that is lent nothing, told what it gives. h: the own memory that its arguments are read from. -/
structure QCall (P : Program) (s : St) (h : Heap) (o : Oper) (r : E) : Prop where
  ex : ∃ f args types g caps xs, o.op = .call { callee := .value f, args, argTypes := types } ∧ s.val f = .fn g caps ∧ Callable P g ∧
    ConvL h (fun id => r.scalar = true ∨ ∃ b, h id = some b ∧ b.excl = false) (callArgs s args caps) xs ∧ noRefs xs = true ∧ r.noRef = true ∧ Spec P g noHeap xs fun _ r' => r' = r

/-- A call that is lent blocks, told what it gives back. -/
structure LCall (P : Program) (s : St) (o : Oper) (h0 h1 : Heap) (r : E) : Prop where
  ex : ∃ f args types g caps xs, o.op = .call { callee := .value f, args, argTypes := types } ∧ s.val f = .fn g caps ∧ Callable P g ∧
    ConvL s.heap (fun id => ∃ b, s.heap id = some b ∧ b.excl = false) (callArgs s args caps) xs ∧ (∀ id b, h0 id = some b → s.heap id = some b ∧ b.excl = true) ∧
    (∀ id b, h1 id = some b → ∃ b0, h0 id = some b0) ∧ noRefH h1 ∧ r.noRef = true ∧ Spec P g h0 xs fun h1' r' => h1' = h1 ∧ r' = r

inductive Kd where
  | s | r | rn (d : Nat) | a | w | wn (d : Nat) | rb (i : Id) | wb (i : Id)
  deriving DecidableEq

/-- One operation, by its kind: s hangs on slots alone, r looks at own memory, rn at blocks of one name alone, a makes a block, w writes, wn stores into a block of that name. -/
inductive StepK (P : Program) (ops : Array Oper) : Kd → Oper → St → St → Prop
  | skip {k : Kd} {o : Oper} {s : St} : wantedE ops s o = some false → StepK P ops k o s (s.set o.dst (.tup []))
  | vs {o : Oper} {s : St} {e : E} : wantedE ops s o = some true → evalV P s.val noHeap o.op = some e → StepK P ops .s o s (s.set o.dst e)
  | qs {o : Oper} {s : St} {r : E} : wantedE ops s o = some true → QCall P s noHeap o r → StepK P ops .s o s (s.set o.dst r)
  | vr {o : Oper} {s : St} {e : E} : wantedE ops s o = some true → evalV P s.val s.heap o.op = some e → StepK P ops .r o s (s.set o.dst e)
  | qr {o : Oper} {s : St} {r : E} : wantedE ops s o = some true → QCall P s s.heap o r → StepK P ops .r o s (s.set o.dst r)
  | rn {d : Nat} {o : Oper} {s : St} {e : E} : wantedE ops s o = some true → evalV P s.val (onlyName d s.heap) o.op = some e → StepK P ops (.rn d) o s (s.set o.dst e)
  | a {o : Oper} {s : St} {nm : Nat} {cs : List E} {mk : Id → E} : wantedE ops s o = some true → evalA P s.val o.op = some (cs, mk) → StepK P ops .a o s ((s.newBlk nm cs).set o.dst (mk (nm, s.cnt nm)))
  | w {o : Oper} {s s' : St} {nm : Nat} : wantedE ops s o = some true → evalW P nm s o = some s' → StepK P ops .w o s s'
  | wn {o : Oper} {s s' : St} {nm : Nat} {t : TypeId} {x v : Operand} {id : Id} {off : Nat} : wantedE ops s o = some true → o.op = .store t x v → s.val x = .ptr id off → evalW P nm s o = some s' → StepK P ops (.wn id.1) o s s'
  | rb {i : Id} {o : Oper} {s : St} {e : E} : wantedE ops s o = some true → evalV P s.val (onlyId i s.heap) o.op = some e → StepK P ops (.rb i) o s (s.set o.dst e)
  | wb {i : Id} {o : Oper} {s s' : St} {nm : Nat} : wantedE ops s o = some true → evalW P nm s o = some s' → (∀ id : Id, id ≠ i → id.2 < s.cnt id.1 → s'.heap id = s.heap id) → StepK P ops (.wb i) o s s'
  | l {o : Oper} {s : St} {h0 h1 : Heap} {r : E} : wantedE ops s o = some true → LCall P s o h0 h1 r → StepK P ops .w o s (St.set { s with heap := merge s.heap h0 h1 } o.dst r)

/-- The operands of an operation, and its guard, lie among n slots. -/
def opIn (n : Nat) (ops : Array Oper) (o : Oper) : Bool :=
  o.op.operands.all (inSlots n) && match o.guard with
    | none => true
    | some (j, _) => match (ops[j]?).bind (·.dst) with
      | some d => decide (d < n)
      | none => false

section
variable {P : Program} {ops : Array Oper} {C : Ctx} {s : St} {φ : Id → Nat × Nat} {a : Act} {w : World} {n : Nat}

theorem wantedE_run (h : SimAt C s φ a w) (ha : a.tmps.size = n) {o : Oper} (hin : opIn n ops o = true) {b : Bool} (hw : wantedE ops s o = some b) : Region.wanted o (yielded ops a.tmps) = b := by
  unfold wantedE at hw
  unfold Region.wanted
  unfold opIn at hin
  simp only [Bool.and_eq_true] at hin
  cases hg : o.guard with
  | none => simp [hg] at hw ⊢; exact hw
  | some gw =>
    obtain ⟨j, want⟩ := gw
    simp only [hg] at hw hin ⊢
    cases hd : (ops[j]?).bind (·.dst) with
    | none => simp [hd] at hw
    | some d =>
      simp only [hd] at hw hin
      have hlt : d < a.tmps.size := by rw [ha]; exact of_decide_eq_true hin.2
      have hs := h.slots d hlt
      have hget : a.tmps[d]? = some (at_ a.tmps d) := by simp [at_, hlt]
      split at hw
      · rename_i b' hb'
        rw [hb'] at hs
        generalize at_ a.tmps d = c at *
        cases hs with
        | p hs =>
        cases hs
        injection hw with hw
        simp only [yielded, hd, Option.bind_some, hget]
        rw [← hw]
        cases b' <;> cases want <;> rfl
      · rename_i vs hb'
        rw [hb'] at hs
        generalize at_ a.tmps d = c at *
        cases hs
        injection hw with hw
        simp only [yielded, hd, Option.bind_some, hget]
        rw [← hw]
        rfl
      · cases hw

theorem evalV_gives {own : Nat → Prop} {cnt : Nat → Nat} {A : Nat → Nat → Prop} {h : Heap} (hh : HRel own A h cnt φ w) {ρ : Operand → Value} {val : Operand → E} {n : Nat} (hv : ∀ x, inSlots n x = true → RepE cnt φ A w (ρ x) (val x))
    {o : Oper} (hin : ∀ x ∈ o.op.operands, inSlots n x = true) {e : E} (he : evalV P val h o.op = some e) : OpGives P cnt φ A w ρ o e := by
  unfold evalV at he
  split at he
  · rename_i t parts hop
    obtain ⟨dst, op, type, pos, after, guard⟩ := o
    simp only at hop hin; subst hop
    refine (buildE_gives (by simp) (fun j h1 h2 => ?_) he).op rfl
    simp only [List.getElem_map, Array.getElem_map]
    refine ⟨by simp, ?_⟩
    simp only [Array.getElem_toList]
    refine hv _ (hin _ ?_)
    simp only [Op.operands, List.mem_toArray, List.mem_map]
    exact ⟨_, Array.getElem_mem_toList (by simpa using h1), rfl⟩
  · rename_i src dst x hop
    obtain ⟨dst', op, type, pos, after, guard⟩ := o
    simp only at hop hin; subst hop
    split at he
    · rename_i e' hc
      injection he with he; subst he
      exact (convE_gives (hv x (hin x (by simp [Op.operands]))) hc).op rfl
    · exact (textE_gives hh (hv x (hin x (by simp [Op.operands]))) he).op rfl
  · exact evalS_gives hh hv hin he

theorem loadE_mono {h h' : Heap} (hs : subH h h') {t : TypeId} {x e : E} (he : loadE P t h x = some e) : loadE P t h' x = some e := by
  unfold loadE at he ⊢
  cases x <;> simp only at he ⊢ <;> first
    | exact he
    | skip
  rename_i id off
  cases hb : h id with
  | none => cases ht : tAgg P t with
    | none => simp [hb, ht] at he
    | some b => cases b <;> cases hz : tSize P t <;> simp [hb, ht, hz] at he
  | some blk => rw [hs _ _ hb]; rw [hb] at he; exact he

theorem textE_mono {h h' : Heap} (hs : subH h h') {src dst : TypeId} {x e : E} (he : textE P src dst h x = some e) : textE P src dst h' x = some e := by
  unfold textE at he ⊢
  split at he
  · rename_i hc
    rw [if_pos hc]
    split at he
    · exact he
    · exact he
    · rename_i id off len
      split at he
      · rename_i blk hb
        simp only [hs _ _ hb]
        exact he
      · cases he
    · cases he
  · cases he

theorem evalV_mono {val : Operand → E} {h h' : Heap} (hs : subH h h') {op : Op} {e : E} (he : evalV P val h op = some e) : evalV P val h' op = some e := by
  unfold evalV at he ⊢
  split at he
  · exact he
  · split at he
    · exact he
    · exact textE_mono hs he
  · unfold evalS at he ⊢
    split at he <;> first
      | exact he
      | exact loadE_mono hs he

theorem callFunc_run {g : FuncId} (hg : Callable P g) (args : Array Value) (w : World) : (callFunc g args).run P w = .ok (.enter g args) w := by
  obtain ⟨fn, h1, h2, h3⟩ := hg.ex
  simp only [callFunc, Sem.run_bind, run_program, Result.andThen_ok, h1, h2, h3, Bool.false_eq_true, if_false, Sem.run_pure]

theorem args_rep {B : Nat → Nat → Prop} (hv : ∀ x, inSlots n x = true → RepE s.cnt φ B w (a.eval x) (s.val x)) {args : Array Operand} (hin : ∀ x ∈ args, inSlots n x = true) {caps : List E} {carr : Array Value}
    (hcs : carr.size = caps.length) (hcr : ∀ (j : Nat) (hj : j < caps.length), RepE s.cnt φ B w (at_ carr j) caps[j]) :
    (args.map a.eval ++ carr).size = (callArgs s args caps).length ∧ ∀ (j : Nat) (hj : j < (callArgs s args caps).length), RepE s.cnt φ B w (at_ (args.map a.eval ++ carr) j) (callArgs s args caps)[j] := by
  obtain ⟨g1, g2⟩ := rep_map hv args hin
  refine ⟨by simp [callArgs, hcs], fun j hj => ?_⟩
  unfold callArgs at hj ⊢
  by_cases hlt : j < (args.toList.map s.val).length
  · rw [List.getElem_append_left hlt]
    have : at_ (args.map a.eval ++ carr) j = at_ (args.map a.eval) j := by
      have : j < args.size := by simpa using hlt
      simp [at_, Array.getElem?_append, this]
    rw [this]; exact g2 j hlt
  · rw [List.getElem_append_right (by omega)]
    have : at_ (args.map a.eval ++ carr) j = at_ carr (j - (args.toList.map s.val).length) := by
      have h2 : ¬ j < args.size := by simpa using hlt
      simp [at_, Array.getElem?_append, h2]
    rw [this]; exact hcr _ (by simp at hj hlt ⊢; omega)

theorem call_exec {o : Oper} {f : Operand} {args : Array Operand} {types : Array TypeId} {g : FuncId} {carr : Array Value} (hop : o.op = .call { callee := .value f, args, argTypes := types })
    (hf : a.eval f = .func (.func g) #[] carr) (hg : Callable P g) : (execOp a.eval o).run P w = .ok (.enter g (args.map a.eval ++ carr)) w := by
  obtain ⟨dst, op, type, pos, after, guard⟩ := o
  simp only at hop; subst hop
  simp [execOp, resolve, Deferred.ofValue, hf, invoke, callFunc_run hg]

/-- A step over abstract states is one of the machine. -/
theorem StepK.sound {k : Kd} {o : Oper} {s' : St} (hst : StepK P ops k o s s') {i : Nat} (hi : ops[i]? = some o) (hin : opIn n ops o = true) (ha : a.tmps.size = n) (h : SimAt C s φ a w)
    {Q : Exit → Act → World → Prop} {K : Act → World → Prop} (hK : ∀ a' w', a'.tmps.size = n → Sim C s' a' w' → K a' w') : wpOp P ops Q i K a w := by
  have hops : ∀ x ∈ o.op.operands, inSlots n x = true := by
    unfold opIn at hin
    simp only [Bool.and_eq_true, Array.all_eq_true_iff_forall_mem] at hin
    exact hin.1
  have hv : ∀ x, inSlots n x = true → RepE s.cnt φ (Ok C s.heap φ) w (a.eval x) (s.val x) := fun x hx => h.val (by rw [ha]; exact hx)
  have hput : ∀ v, (a.put o.dst v).tmps.size = n := fun v => by
    cases o.dst with
    | none => exact ha
    | some d => simp [Act.put, ha]
  have val : ∀ e, wantedE ops s o = some true → evalV P s.val s.heap o.op = some e → (∀ a' w', a'.tmps.size = n → Sim C (s.set o.dst e) a' w' → K a' w') → wpOp P ops Q i K a w := by
    intro e hw he hK
    obtain ⟨v, g1, g2⟩ := evalV_gives (P := P) h.heap hv hops he
    unfold wpOp
    simp only [hi, wantedE_run h ha hin hw, if_true]
    refine .inl ?_
    simp only [Oper.wp, g1, Oper.upon_value]
    exact hK _ _ (hput v) ⟨φ, h.set g2⟩
  have qcall : ∀ (hp : Heap) r, wantedE ops s o = some true → QCall P s hp o r → (∀ id b, hp id = some b → s.heap id = some b) → (∀ a' w', a'.tmps.size = n → Sim C (s.set o.dst r) a' w' → K a' w') → wpOp P ops Q i K a w := by
    intro hp r hw hq hsub hK
    obtain ⟨f, args, types, g, caps, xs, hop, hfv, hg, hconv, hnr, hrn, hspec⟩ := hq.ex
    have hopf : ∀ x ∈ args, inSlots n x = true := fun x hx => hops x (by rw [hop]; simp [Op.operands, Call.operands, hx])
    have hf := hv f (hops f (by rw [hop]; simp [Op.operands, Call.operands]))
    rw [hfv] at hf
    generalize hcf : a.eval f = cf at *
    cases hf with
    | fn hcs hcr =>
    rename_i carr
    have hexec := call_exec (P := P) (w := w) hop hcf hg
    obtain ⟨r1, r2⟩ := args_rep hv hopf hcs hcr
    unfold wpOp
    simp only [hi, wantedE_run h ha hin hw, if_true]
    refine .inl ?_
    simp only [Oper.wp, hexec, Oper.upon_enter]
    have hh' : HRel C.own (Ok C s.heap φ) hp s.cnt φ w := ⟨fun id b hb => h.heap.blk id b (hsub _ _ hb), fun id id' b b' g1 g2 he => h.heap.inj id id' b b' (hsub _ _ g1) (hsub _ _ g2) he⟩
    have go : ∀ B : Nat → Nat → Prop, ((B = Ok C s.heap φ) ∨ r.scalar = true) → (∀ b i, Ok C s.heap φ b i → B b i) →
        (∀ id blk, (r.scalar = true ∨ ∃ b, hp id = some b ∧ b.excl = false) → hp id = some blk → ∀ j, j < blk.cells.length → B (φ id).1 ((φ id).2 + j)) →
        Calls P g (args.map a.eval ++ carr) w fun
          | .returned v, w'' => K (a.put o.dst v) w''
          | .panicked chain, w'' => Q (.panic chain) a w''
          | .outgrown, _ => LetsOut Q := by
      intro B hB hsubB hokB
      have hxs : ∀ (j : Nat) (hj : j < xs.length), RepE s.cnt φ B w (at_ (args.map a.eval ++ carr) j) xs[j] := fun j hj =>
        (hconv.2 j (by rw [hconv.1]; exact hj) hj).rep hh' hsubB hokB (r2 j (by rw [hconv.1]; exact hj))
      refine (callQ_run h hB hxs (by rw [r1]; exact hconv.1) (noRefs_get hnr) hrn hspec o.dst).mono ?_
      rintro e w' ⟨v, rfl, hsim⟩
      exact hK _ _ (hput v) ⟨φ, hsim⟩
    by_cases hsc : r.scalar = true
    · exact go (fun _ _ => True) (.inr hsc) (fun _ _ _ => trivial) (fun _ _ _ _ _ _ => trivial)
    · refine go (Ok C s.heap φ) (.inl rfl) (fun _ _ q => q) fun id blk hok hb j hj => ?_
      obtain ⟨b, hb2, hex⟩ := hok.resolve_left hsc
      rw [hb] at hb2; injection hb2 with hb2; subst hb2
      refine .inl ⟨(h.heap.blk id blk (hsub _ _ hb)).own, ?_⟩
      rintro ⟨id', blk', q1, q2, q3⟩
      have := h.heap.inj id' id blk' blk q1 (hsub _ _ hb) q2
      subst this
      rw [hsub _ _ hb] at q1; injection q1 with q1; subst q1
      rcases q3 with q3 | q3
      · rw [hex] at q3; cases q3
      · omega
  have wr : ∀ (nm : Nat) s', wantedE ops s o = some true → evalW P nm s o = some s' → (∀ a' w', a'.tmps.size = n → Sim C s' a' w' → K a' w') → wpOp P ops Q i K a w := by
    intro nm s' hw he hK
    unfold wpOp
    simp only [hi, wantedE_run h ha hin hw, if_true]
    refine .inl ?_
    unfold evalW at he
    split at he
    · rename_i t x v hop
      simp only [Option.map_eq_some_iff] at he
      obtain ⟨s1, he, rfl⟩ := he
      have hx := hv x (hops x (by rw [hop]; simp [Op.operands]))
      have hvv := hv v (hops v (by rw [hop]; simp [Op.operands]))
      obtain ⟨w', g1, g2⟩ := storeE_run (P := P) h hx hvv he
      have hexec : (execOp a.eval o).run P w = .ok .skip w' := by
        unfold execOp; simp only [hop, Sem.run_bind, g1, Result.andThen_ok, Sem.run_pure]
      simp only [Oper.wp, hexec, Oper.upon_skip]
      exact hK _ _ (hput _) ⟨φ, g2.set (.tup rfl fun j hj => by simp at hj)⟩
    · rename_i args argTypes hop
      split at he
      · rename_i x y t0 t1 hxy htt
        have e1 : args = #[x, y] := by apply Array.ext'; simpa using hxy
        have e2 : argTypes = #[t0, t1] := by apply Array.ext'; simpa using htt
        subst e1; subst e2
        have hx := hv x (hops x (by rw [hop]; simp [Op.operands, Call.operands]))
        have hy := hv y (hops y (by rw [hop]; simp [Op.operands, Call.operands]))
        obtain ⟨v, w', φ', g1, g2⟩ := append_run (P := P) (ty := o.type) h hx hy he
        have hexec : (execOp a.eval o).run P w = .ok (.value v) w' := by
          unfold execOp; simp [hop, resolve, invoke, builtin, g1]
        simp only [Oper.wp, hexec, Oper.upon_value]
        exact hK _ _ (hput v) ⟨φ', g2⟩
      · cases he
    · rename_i args argTypes hop
      split at he
      · rename_i x y t0 t1 hxy htt
        have e1 : args = #[x, y] := by apply Array.ext'; simpa using hxy
        have e2 : argTypes = #[t0, t1] := by apply Array.ext'; simpa using htt
        subst e1; subst e2
        have hx := hv x (hops x (by rw [hop]; simp [Op.operands, Call.operands]))
        have hy := hv y (hops y (by rw [hop]; simp [Op.operands, Call.operands]))
        obtain ⟨v, w', φ', g1, g2⟩ := copy_run (P := P) (ty := o.type) h hx hy he
        have hexec : (execOp a.eval o).run P w = .ok (.value v) w' := by
          unfold execOp; simp [hop, resolve, invoke, builtin, g1]
        simp only [Oper.wp, hexec, Oper.upon_value]
        exact hK _ _ (hput v) ⟨φ', g2⟩
      · cases he
    · rename_i args argTypes hop
      split at he
      · rename_i x t hxy htt
        have e1 : args = #[x] := by apply Array.ext'; simpa using hxy
        have e2 : argTypes = #[t] := by apply Array.ext'; simpa using htt
        subst e1; subst e2
        have hx := hv x (hops x (by rw [hop]; simp [Op.operands, Call.operands]))
        obtain ⟨v, w', φ', g1, g2⟩ := clear_run (P := P) (ty := o.type) h hx he
        have hexec : (execOp a.eval o).run P w = .ok (.value v) w' := by
          unfold execOp; simp [hop, resolve, invoke, builtin, g1]
        simp only [Oper.wp, hexec, Oper.upon_value]
        exact hK _ _ (hput v) ⟨φ', g2⟩
      · cases he
    · cases he
  cases hst with
  | skip hw =>
    unfold wpOp
    simp only [hi, wantedE_run h ha hin hw, Bool.false_eq_true, if_false]
    exact hK _ _ (hput _) ⟨φ, h.set (.tup rfl fun j hj => by simp at hj)⟩
  | vs hw he => exact val _ hw (evalV_mono (fun id b hb => by simp [noHeap] at hb) he) hK
  | rn hw he => exact val _ hw (evalV_mono (fun id b hb => by unfold onlyName at hb; split at hb <;> first | exact hb | cases hb) he) hK
  | vr hw he => exact val _ hw he hK
  | rb hw he => exact val _ hw (evalV_mono (fun id b hb => by unfold onlyId at hb; split at hb <;> first | exact hb | cases hb) he) hK
  | wb hw he _ => exact wr _ _ hw he hK
  | qs hw hq => exact qcall noHeap _ hw hq (fun id b hb => by simp [noHeap] at hb) hK
  | qr hw hq => exact qcall s.heap _ hw hq (fun id b hb => hb) hK
  | a hw he =>
    rename_i nm cs mk
    obtain ⟨v, w', φ', g1, g2⟩ := newA_run (P := P) (n := n) (op := o.op) hv h hops he nm o.dst
    unfold wpOp
    simp only [hi, wantedE_run h ha hin hw, if_true]
    refine .inl ?_
    simp only [Oper.wp, g1, Oper.upon_value]
    exact hK _ _ (hput v) ⟨φ', g2⟩
  | w hw he => exact wr _ _ hw he hK
  | wn hw hop hx he => exact wr _ _ hw he hK
  | l hw hl =>
    rename_i h0 h1 r
    obtain ⟨f, args, types, g, caps, xs, hop, hfv, hg, hconv, hsub, hids, hnh, hrn, hspec⟩ := hl.ex
    have hopf : ∀ x ∈ args, inSlots n x = true := fun x hx => hops x (by rw [hop]; simp [Op.operands, Call.operands, hx])
    have hf := hv f (hops f (by rw [hop]; simp [Op.operands, Call.operands]))
    rw [hfv] at hf
    generalize hcf : a.eval f = cf at *
    cases hf with
    | fn hcs hcr =>
    rename_i carr
    have hexec := call_exec (P := P) (w := w) hop hcf hg
    obtain ⟨r1, r2⟩ := args_rep hv hopf hcs hcr
    unfold wpOp
    simp only [hi, wantedE_run h ha hin hw, if_true]
    refine .inl ?_
    simp only [Oper.wp, hexec, Oper.upon_enter]
    have hxs : ∀ (j : Nat) (hj : j < xs.length), RepE s.cnt φ (Ok C s.heap φ) w (at_ (args.map a.eval ++ carr) j) xs[j] := fun j hj =>
      (hconv.2 j (by rw [hconv.1]; exact hj) hj).rep h.heap (fun _ _ q => q) (fun id blk hok hb j hj => by
        obtain ⟨b, hb2, hex⟩ := hok
        rw [hb] at hb2; injection hb2 with hb2; subst hb2
        refine .inl ⟨(h.heap.blk id blk hb).own, ?_⟩
        rintro ⟨id', blk', q1, q2, q3⟩
        have := h.heap.inj id' id blk' blk q1 hb q2
        subst this
        rw [hb] at q1; injection q1 with q1; subst q1
        rcases q3 with q3 | q3
        · rw [hex] at q3; cases q3
        · omega) (r2 j (by rw [hconv.1]; exact hj))
    refine (callW_run h hsub hxs (by rw [r1]; exact hconv.1) (hspec s.cnt) o.dst).mono ?_
    rintro e w' ⟨v, cnt', φ', h1', r', rfl, ⟨rfl, rfl⟩, c1, c2, c3, hsim, hsim2⟩
    exact hK _ _ (hput v) ⟨φ', hsim2 hnh hrn hids⟩

end
end Go.Vm
