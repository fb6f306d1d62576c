/- An interpreter over finite data that stand for abstract states. No condition. -/
import Derived.Test.YtfjmcdacnhfacaaGreatDoorVmN5
set_option linter.all false
namespace Go.Vm
open Go

/-! ### slots -/
inductive Tr where
  | leaf
  | node (l : Tr) (v : E) (r : Tr)

def Tr.get : Tr → Nat → E
  | .leaf, _ => .dead
  | .node l v r, n => bif Nat.beq n 0 then v else bif Nat.beq ((n - 1) % 2) 0 then l.get ((n - 1) / 2) else r.get ((n - 1) / 2)

def Tr.set : Nat → Tr → Nat → E → Tr
  | 0, t, _, _ => t
  | f + 1, .leaf, n, v => bif Nat.beq n 0 then .node .leaf v .leaf else bif Nat.beq ((n - 1) % 2) 0 then .node (Tr.set f .leaf ((n - 1) / 2) v) .dead .leaf else .node .leaf .dead (Tr.set f .leaf ((n - 1) / 2) v)
  | f + 1, .node l x r, n, v => bif Nat.beq n 0 then .node l v r else bif Nat.beq ((n - 1) % 2) 0 then .node (Tr.set f l ((n - 1) / 2) v) x r else .node l x (Tr.set f r ((n - 1) / 2) v)

theorem beq_eq {a b : Nat} : Nat.beq a b = decide (a = b) := by
  by_cases h : a = b
  · subst h; simp
  · simp only [h, decide_false]
    cases hb : Nat.beq a b with
    | false => rfl
    | true => exact absurd (Nat.eq_of_beq_eq_true hb) h

theorem Tr.get_set : ∀ (f : Nat) (t : Tr) (n : Nat) (v : E) (m : Nat), n + 1 < 2 ^ f → (Tr.set f t n v).get m = if m = n then v else t.get m
  | 0, t, n, v, m, h => by simp at h
  | f + 1, t, n, v, m, h => by
    have ih : ∀ (t : Tr) (k m : Nat), k + 1 < 2 ^ f → (Tr.set f t k v).get m = if m = k then v else t.get m := fun t k m h => Tr.get_set f t k v m h
    have hp : 2 ^ (f + 1) = 2 * 2 ^ f := by rw [Nat.pow_succ, Nat.mul_comm]
    have hlt : ¬ n = 0 → (n - 1) / 2 + 1 < 2 ^ f := fun _ => by omega
    have side : ∀ (l r : Tr) (x : E), (bif Nat.beq n 0 then Tr.node l v r else bif Nat.beq ((n - 1) % 2) 0 then .node (Tr.set f l ((n - 1) / 2) v) x r else .node l x (Tr.set f r ((n - 1) / 2) v)).get m = if m = n then v else (Tr.node l x r).get m := by
      intro l r x
      simp only [beq_eq, Bool.cond_decide]
      by_cases h0 : n = 0
      · subst h0
        by_cases hm : m = 0
        · subst hm; simp [Tr.get]
        · simp [Tr.get, hm, beq_eq, Bool.cond_decide]
      · have hn := hlt h0
        by_cases hp2 : (n - 1) % 2 = 0
        · simp only [h0, hp2, if_false, if_true, Tr.get, beq_eq, Bool.cond_decide]
          by_cases hm : m = 0
          · subst hm; simp [Ne.symm h0]
          · by_cases hmp : (m - 1) % 2 = 0
            · simp only [hm, hmp, if_false, if_true]
              rw [ih l _ _ hn]
              by_cases he : m = n
              · subst he; simp
              · have : ¬ (m - 1) / 2 = (n - 1) / 2 := by omega
                simp [this, he]
            · have : ¬ m = n := by rintro rfl; exact hmp hp2
              simp [hm, hmp, this]
        · simp only [h0, hp2, if_false, Tr.get, beq_eq, Bool.cond_decide]
          by_cases hm : m = 0
          · subst hm; simp [Ne.symm h0]
          · by_cases hmp : (m - 1) % 2 = 0
            · have : ¬ m = n := by rintro rfl; exact hp2 hmp
              simp [hm, hmp, this]
            · simp only [hm, hmp, if_false]
              rw [ih r _ _ hn]
              by_cases he : m = n
              · subst he; simp
              · have : ¬ (m - 1) / 2 = (n - 1) / 2 := by omega
                simp [this, he]
    cases t with
    | leaf =>
      have := side .leaf .leaf .dead
      have h2 : ∀ m, (Tr.node .leaf .dead .leaf).get m = (Tr.leaf).get m := by
        intro m; simp only [Tr.get, beq_eq, Bool.cond_decide]; split <;> (try split) <;> rfl
      rw [h2] at this
      exact this
    | node l x r => exact side l r x

/-! ### blocks: the newest first -/
abbrev Bs := List (Nat × List E)
def lookB : Bs → Nat → Option (List E)
  | [], _ => none
  | (k, b) :: l, n => bif Nat.beq k n then some b else lookB l n
def setB : Bs → Nat → List E → Bs
  | [], _, _ => []
  | (k, b) :: l, n, v => bif Nat.beq k n then (k, v) :: l else (k, b) :: setB l n v
def delB : Bs → Nat → Bs
  | [], _ => []
  | (k, b) :: l, n => bif Nat.beq k n then delB l n else (k, b) :: delB l n
/-- Those made ahead of the n-th. -/
def oldB : Bs → Nat → Bs
  | [], _ => []
  | (k, b) :: l, n => bif Nat.ble n k then oldB l n else (k, b) :: oldB l n

def hOf (h : Bs) : Heap := fun id => if id.1 = 0 then (lookB h id.2).map (⟨true, ·⟩) else none
def cOf (c : Nat) : Nat → Nat := fun d => if d = 0 then c else 0

structure DS where
  env : Tr
  heap : Bs
  c : Nat

def DS.st (s : DS) : St := ⟨s.env.get, hOf s.heap, cOf s.c⟩
def DS.put (s : DS) (d : Option Tmp) (e : E) : DS :=
  match d with
  | some t => { s with env := s.env.set 20 t e }
  | none => s
def DS.val (s : DS) : Operand → E
  | .tmp t => s.env.get t
  | .const v => absV v
  | .global _ => .dead
  | .func f => .fn f []

def lookD (h : Bs) (id : Id) : Option (List E) := bif Nat.beq id.1 0 then lookB h id.2 else none

/-! ### operations -/
def storeD (P : Program) (t : TypeId) (h : Bs) (x v : E) : Option Bs :=
  match x, v.cells with
  | .ptr id off, some es =>
    match lookD h id with
    | some cells => if tSize P t = some es.length ∧ off + es.length ≤ cells.length then some (setB h id.2 (setRange cells off es)) else none
    | none => none
  | _, _ => none

/-- The blocks behind it, how many, and what the result is. -/
def appendD (P : Program) (t0 t1 : TypeId) (h : Bs) (c : Nat) (x0 x1 : E) : Option (Bs × Nat × E) :=
  match tElem P t0 with
  | none => none
  | some el =>
    match tSize P el, tBytes P el with
    | some n, some by_ =>
      if 0 < n ∧ 0 < by_ ∧ tZeroOk P el = true then
        match srcE P t1 n (hOf h) x1 with
        | none => none
        | some es =>
          match x0 with
          | .nil =>
            if es.length = 0 then some (h, c, .nil)
            else if es.length / n * by_ ≤ 140737488355328 then some ((c, es) :: h, c + 1, .sl (0, c) n 0 (es.length / n)) else none
          | .sl id sz off len =>
            match lookD h id with
            | none => none
            | some cells =>
              if sz = n ∧ off + len * n ≤ cells.length ∧ (len + es.length / n) * by_ ≤ 140737488355328 then
                some ((c, (cells.drop off).take (len * n) ++ es) :: delB h id.2, c + 1, .sl (0, c) n 0 (len + es.length / n))
              else none
          | _ => none
      else none
    | _, _ => none

def copyD (P : Program) (t0 t1 : TypeId) (h : Bs) (x0 x1 : E) : Option (Bs × E) :=
  match tElem P t0 with
  | none => none
  | some el =>
    match tSize P el, x0 with
    | some n, .sl id sz off len =>
      match srcE P t1 n (hOf h) x1, lookD h id with
      | some es, some cells =>
        if 0 < n ∧ sz = n ∧ off + len * n ≤ cells.length then
          some (setB h id.2 (setRange cells off (es.take (min (es.length / n) len * n))), .p (.int .i64 (min (es.length / n) len : Nat)))
        else none
      | _, _ => none
    | _, _ => none

def clearD (P : Program) (t : TypeId) (h : Bs) (x : E) : Option Bs :=
  match tElem P t with
  | none => none
  | some el =>
    match tSize P el, tZero P el, x with
    | some n, some zs, .sl id sz off len =>
      if len = 0 then some h
      else match lookD h id with
        | some cells => if 0 < n ∧ sz = n ∧ off + len * n ≤ cells.length then some (setB h id.2 (setRange cells off (zerosE zs len))) else none
        | none => none
    | some _, some _, .nil => some h
    | some _, some _, .p (.list _ []) => some h
    | _, _, _ => none

def newD (P : Program) (s : DS) (o : Oper) : Option DS :=
  match evalA P s.val o.op with
  | some (cs, mk) => some (DS.put { s with heap := (s.c, cs) :: s.heap, c := s.c + 1 } o.dst (mk (0, s.c)))
  | none => none

abbrev CallD := FuncId → List E → Bs → Nat → Option (E × Bs × Nat)

def isA : Op → Bool
  | .alloc _ => true
  | .box _ _ => true
  | .buildSlice _ _ _ => true
  | .makeSlice _ _ _ => true
  | _ => false

def opD (P : Program) (call : CallD) (s : DS) (o : Oper) : Option DS :=
  match o.op with
  | .store t x v => (storeD P t s.heap (s.val x) (s.val v)).map fun h => DS.put { s with heap := h } o.dst (.tup [])
  | .call { callee := .value f, args, .. } =>
    match s.val f with
    | .fn g caps => match call g (args.toList.map s.val ++ caps) s.heap s.c with
      | some (r, h, c) => some (DS.put { s with heap := h, c := c } o.dst r)
      | none => none
    | _ => none
  | .call { callee := .builtin .append, args, argTypes } =>
    match args.toList, argTypes.toList with
    | [x, y], [t0, t1] => match appendD P t0 t1 s.heap s.c (s.val x) (s.val y) with
      | some (h, c, r) => some (DS.put { s with heap := h, c := c } o.dst r)
      | none => none
    | _, _ => none
  | .call { callee := .builtin .copy, args, argTypes } =>
    match args.toList, argTypes.toList with
    | [x, y], [t0, t1] => match copyD P t0 t1 s.heap (s.val x) (s.val y) with
      | some (h, r) => some (DS.put { s with heap := h } o.dst r)
      | none => none
    | _, _ => none
  | .call { callee := .builtin .clear, args, argTypes } =>
    match args.toList, argTypes.toList with
    | [x], [t] => (clearD P t s.heap (s.val x)).map fun h => DS.put { s with heap := h } o.dst (.tup [])
    | _, _ => none
  | op =>
    bif isA op then newD P s o
    else match evalV P s.val (hOf s.heap) op with
      | some e => some (s.put o.dst e)
      | none => newD P s o

def wantedD (ops : Array Oper) (s : DS) (o : Oper) : Option Bool :=
  match o.guard with
  | none => some true
  | some (j, want) =>
    match (ops[j]?).bind (·.dst) with
    | some d => match s.env.get d with
      | .p (.bool b) => some (b == want)
      | .tup _ => some false
      | _ => none
    | none => none

def opsD (P : Program) (call : CallD) (ops : Array Oper) : List Oper → DS → Option DS
  | [], s => some s
  | o :: l, s => match wantedD ops s o with
    | some true => match opD P call s o with
      | some s' => opsD P call ops l s'
      | none => none
    | some false => opsD P call ops l (s.put o.dst (.tup []))
    | none => none

/-! ### regions that draw: what each does, told by its kind -/
mutual
/-- A value told as plain data, where its blocks are known. -/
def plainE (h : Bs) : Nat → E → Option P
  | 0, _ => none
  | _ + 1, .p x => some x
  | _ + 1, .nil => some (.list 0 [])
  | f + 1, .sl id sz off len => match lookD h id with
    | some cells => if 0 < sz ∧ off + len * sz ≤ cells.length then (plainEs h f ((cells.drop off).take (len * sz))).map (.list sz ·) else none
    | none => none
  | f + 1, .agg cs => (plainEs h f cs).map .agg
  | _ + 1, _ => none
def plainEs (h : Bs) : Nat → List E → Option (List P)
  | 0, _ => none
  | _ + 1, [] => some []
  | f + 1, e :: r => match plainE h f e, plainEs h f r with
    | some x, some xs => some (x :: xs)
    | _, _ => none
end

/-- An argument told anew; false: it stays as it is. -/
def plainArg (h : Bs) (e : E) : Option E :=
  bif e.noRef then some e else match e with
    | .sl id sz off len => (plainE h 1000000 (.sl id sz off len)).map .p
    | .agg cs => (plainE h 1000000 (.agg cs)).map .p
    | _ => none

def quietD (call : CallD) (s : DS) (g : FuncId) (args : List E) : Option (Kd × E) :=
  bif noRefs args then
    match call g args [] 0 with
    | some (r, [], _) => bif r.noRef then some (.s, r) else none
    | _ => none
  else
    match args.mapM (plainArg s.heap) with
    | some xs => match call g xs [] 0 with
      | some (r, [], _) => bif r.noRef && r.scalar && noRefs xs then some (.r, r) else none
      | _ => none
    | none => none

def wbId : E → Id
  | .ptr id _ => id
  | .sl id _ _ _ => id
  | _ => (1, 0)
/-- The block that a writing operation writes. -/
def wbOf (s : DS) (o : Oper) : Id :=
  match o.op with
  | .store _ x _ => wbId (s.val x)
  | .call { callee := .builtin .append, args, .. } => match args.toList with
    | x :: _ => wbId (s.val x)
    | [] => (1, 0)
  | .call { callee := .builtin .copy, args, .. } => match args.toList with
    | x :: _ => wbId (s.val x)
    | [] => (1, 0)
  | _ => (1, 0)
/-- The block that a load looks at. -/
def rbOf (s : DS) (o : Oper) : Id :=
  match o.op with
  | .load _ x => wbId (s.val x)
  | _ => (1, 0)

def kopD (P : Program) (call : CallD) (s : DS) (o : Oper) : Option (Kd × DS) :=
  match o.op with
  | .store _ _ _ => (opD P call s o).map (.wb (wbOf s o), ·)
  | .call { callee := .value f, args, .. } =>
    match s.val f with
    | .fn g caps => match quietD call s g (args.toList.map s.val ++ caps) with
      | some (k, r) => some (k, s.put o.dst r)
      | none => none
    | _ => none
  | .call { callee := .builtin .append, .. } => (opD P call s o).map (.wb (wbOf s o), ·)
  | .call { callee := .builtin .copy, .. } => (opD P call s o).map (.wb (wbOf s o), ·)
  | op =>
    bif isA op then (newD P s o).map (.a, ·)
    else match evalV P s.val noHeap op with
      | some e => some (.s, s.put o.dst e)
      | none => match evalV P s.val (onlyId (rbOf s o) (hOf s.heap)) op with
        | some e => some (.rb (rbOf s o), s.put o.dst e)
        | none => match evalV P s.val (hOf s.heap) op with
          | some e => some (.r, s.put o.dst e)
          | none => (newD P s o).map (.a, ·)

def drawD (P : Program) (call : CallD) (ops : Array Oper) : List Oper → DS → Option (List Kd × DS)
  | [], s => some ([], s)
  | o :: l, s => match wantedD ops s o with
    | some true => match kopD P call s o with
      | some (k, s') => (drawD P call ops l s').map fun x => (k :: x.1, x.2)
      | none => none
    | some false => (drawD P call ops l (s.put o.dst (.tup []))).map fun x => (.s :: x.1, x.2)
    | none => none

def masksOf (ops : Array Oper) : List Nat :=
  (ops.toList.foldl (fun (acc : List Nat × Nat) o =>
    let m := o.after.toList.foldl (fun m e => bif Region.binds .any e then m ||| (1 <<< e.on) ||| ((acc.1.reverse)[e.on]?).getD 0 else m) 0
    (m :: acc.1, acc.2 + 1)) ([], 0)).1.reverse

/-! ### slices that are from here on only looked at -/
def flatE : E → Option P
  | .p x => some x
  | .nil => some (.list 0 [])
  | _ => none
def flatEs : List E → Option (List P)
  | [] => some []
  | e :: r => match flatE e, flatEs r with
    | some x, some xs => some (x :: xs)
    | _, _ => none
/-- A slot's slice becomes a plain list; its block is given up. -/
def freezeSlot (s : DS) (t : Tmp) : DS :=
  match s.env.get t with
  | .sl id sz off len => match lookD s.heap id with
    | some cells => bif decide (0 < sz ∧ off + len * sz ≤ cells.length) && Nat.blt t 1000000 then match flatEs ((cells.drop off).take (len * sz)) with
      | some ps => { s with env := s.env.set 20 t (.p (.list sz ps)), heap := delB s.heap id.2 }
      | none => s
      else s
    | none => s
  | _ => s
def freezeOp (s : DS) (o : Oper) : DS :=
  o.op.operands.toList.foldl (fun s x => match x with
    | .tmp t => freezeSlot s t
    | _ => s) s
def freezeD (s : DS) (l : List Oper) : DS := l.foldl freezeOp s

/-! ### an order that Go leaves open, told by a bool that is stored twice -/
mutual
def P.same : P → P → Bool
  | .int k n, .int k' n' => decide (k = k') && decide (n = n')
  | .bool b, .bool b' => b == b'
  | .str a, .str b => decide (a = b)
  | .list sz a, .list sz' b => Nat.beq sz sz' && sameP a b
  | .agg a, .agg b => sameP a b
  | _, _ => false
def sameP : List P → List P → Bool
  | [], [] => true
  | a :: r, b :: s => P.same a b && sameP r s
  | _, _ => false
end
mutual
def E.same : E → E → Bool
  | .p a, .p b => a.same b
  | .nil, .nil => true
  | .ptr i o, .ptr i' o' => Nat.beq i.1 i'.1 && Nat.beq i.2 i'.2 && Nat.beq o o'
  | .pp a, .pp b => sameP a b
  | .sl i sz o l, .sl i' sz' o' l' => Nat.beq i.1 i'.1 && Nat.beq i.2 i'.2 && Nat.beq sz sz' && Nat.beq o o' && Nat.beq l l'
  | .agg a, .agg b => sameE a b
  | .tup a, .tup b => sameE a b
  | .fn f a, .fn g b => Nat.beq f g && sameE a b
  | _, _ => false
def sameE : List E → List E → Bool
  | [], [] => true
  | a :: r, b :: s => E.same a b && sameE r s
  | _, _ => false
end
/-- The blocks that are the same in both. -/
def mergeB : Nat → Bs → Bs → Bs
  | 0, _, _ => []
  | f + 1, (j, x) :: r, (j', y) :: r' =>
    bif Nat.beq j j' then (bif sameE x y then (j, x) :: mergeB f r r' else delB (mergeB f r r') j)
    else bif Nat.ble j j' then delB (mergeB f ((j, x) :: r) r') j' else delB (mergeB f r ((j', y) :: r')) j
  | _ + 1, _, _ => []
def Tr.merge : Tr → Tr → Tr
  | .node l v r, .node l' v' r' => .node (l.merge l') (bif v.same v' then v else .dead) (r.merge r')
  | _, _ => .leaf
def mergeD (s s' : DS) : DS := ⟨s.env.merge s'.env, mergeB 1000000 s.heap s'.heap, max s.c s'.c⟩

def readyIs (ops : Array Oper) (listed : List Bool) (l : List Nat) : Bool := decide (Region.ready .any ops listed.toArray = l)

/-- A region that stores true and false, in whatever order, and loads what is there: its pointer's slot, and the bool's. -/
def choiceD (P : Program) (n : Nat) (ops : Array Oper) : Option (Tmp × Tmp) :=
  match ops.toList with
  | [⟨some p, .alloc t, _, _, _, none⟩, ⟨none, .store t1 (.tmp p1) (.const (.bool b1)), _, _, _, none⟩, ⟨none, .store t2 (.tmp p2) (.const (.bool b2)), _, _, _, none⟩, ⟨some d, .load t3 (.tmp p3), _, _, _, none⟩] =>
    bif (match tZero P t with
      | some [.p (.bool _)] => true
      | _ => false) && decide (tSize P t1 = some 1) && decide (tSize P t2 = some 1) && decide (tSize P t3 = some 1) && decide (tAgg P t3 = some false) && Nat.beq p p1 && Nat.beq p p2 && Nat.beq p p3 && Nat.blt p n && Nat.blt p 1000000 && Nat.blt d 1000000 &&
      readyIs ops [false, false, false, false] [0] && readyIs ops [true, false, false, false] [1, 2] && readyIs ops [true, true, false, false] [2] && readyIs ops [true, false, true, false] [1] && readyIs ops [true, true, true, false] [3] && readyIs ops [true, true, true, true] []
    then some (p, d) else none
  | _ => none

def choiceOf (P : Program) (n : Nat) : Code → Option (Tmp × Tmp)
  | .region _ ops mix => bif mix && Nat.beq ops.size 4 then choiceD P n ops else none
  | _ => none

/-! ### code -/
inductive X where
  | norm
  | ex (id : Nat)
  | ret
  deriving DecidableEq

def codeD (P : Program) (call : CallD) (n : Nat) : Nat → Code → DS → Option (X × DS)
  | 0, _, _ => none
  | f + 1, c, s => match c with
    | .region _ ops mix =>
      bif mix then
        match drawD P call ops ops.toList s with
        | some (ks, s') => bif drawOk n ops (fun i => (ks[i]?).getD .w) (masksOf ops) then some (.norm, s') else none
        | none => match drawD P call ops ops.toList (freezeD s ops.toList) with
          | some (ks, s') => bif drawOk n ops (fun i => (ks[i]?).getD .w) (masksOf ops) then some (.norm, s') else none
          | none => none
      else match opsD P call ops ops.toList s with
        | some s' => some (.norm, s')
        | none => none
    | .seq a b => match choiceOf P n a with
      | some (p, d) =>
        match codeD P call n f b (DS.put (DS.put { s with c := s.c + 1 } (some p) .dead) (some d) (.p (.bool true))), codeD P call n f b (DS.put (DS.put { s with c := s.c + 1 } (some p) .dead) (some d) (.p (.bool false))) with
        | some (x, s1), some (x', s2) => if x = x' then some (x, mergeD s1 s2) else none
        | _, _ => none
      | none => match codeD P call n f a s with
        | some (.norm, s') => codeD P call n f b s'
        | r => r
    | .cond c a b => match s.val c with
      | .p (.bool true) => codeD P call n f a s
      | .p (.bool false) => codeD P call n f b s
      | _ => none
    | .block id c => match codeD P call n f c s with
      | some (.ex id', s') => bif Nat.beq id' id then some (.norm, s') else some (.ex id', s')
      | r => r
    | .loop c => match codeD P call n f c s with
      | some (.norm, s') => codeD P call n f (.loop c) s'
      | r => r
    | .exit id => some (.ex id, s)
    | .ret => some (.ret, s)
    | .skip => some (.norm, s)
    | _ => none

def setAll : Nat → List E → Tr → Tr
  | _, [], t => t
  | k, e :: l, t => setAll (k + 1) l (t.set 20 k e)

mutual
/-- What is handed out: slices of the call's own blocks as plain lists. -/
def outE (h : Bs) (c0 : Nat) : Nat → E → Option E
  | 0, _ => none
  | f + 1, .sl id sz off len => bif Nat.ble c0 id.2 && Nat.beq id.1 0 then (plainN h c0 f (.sl id sz off len)).map .p else some (.sl id sz off len)
  | f + 1, .agg cs => bif noRefs cs then some (.agg cs) else (outEs h c0 f cs).map .agg
  | f + 1, .tup cs => (outEs h c0 f cs).map .tup
  | f + 1, .fn g cs => (outEs h c0 f cs).map (.fn g ·)
  | _ + 1, .ptr id off => bif Nat.ble c0 id.2 then none else some (.ptr id off)
  | _ + 1, e => some e
def outEs (h : Bs) (c0 : Nat) : Nat → List E → Option (List E)
  | 0, _ => none
  | _ + 1, [] => some []
  | f + 1, e :: r => match outE h c0 f e, outEs h c0 f r with
    | some x, some xs => some (x :: xs)
    | _, _ => none
/-- As plain data, out of blocks of the call's own alone. -/
def plainN (h : Bs) (c0 : Nat) : Nat → E → Option P
  | 0, _ => none
  | _ + 1, .p x => some x
  | _ + 1, .nil => some (.list 0 [])
  | f + 1, .sl id sz off len => bif Nat.ble c0 id.2 then match lookD h id with
    | some cells => if 0 < sz ∧ off + len * sz ≤ cells.length then (plainNs h c0 f ((cells.drop off).take (len * sz))).map (.list sz ·) else none
    | none => none else none
  | f + 1, .agg cs => (plainNs h c0 f cs).map .agg
  | _ + 1, _ => none
def plainNs (h : Bs) (c0 : Nat) : Nat → List E → Option (List P)
  | 0, _ => none
  | _ + 1, [] => some []
  | f + 1, e :: r => match plainN h c0 f e, plainNs h c0 f r with
    | some x, some xs => some (x :: xs)
    | _, _ => none
end

def isPtr : E → Bool
  | .ptr _ _ => true
  | _ => false

/-- Functions that are told by what they give. -/
abbrev PrimD := FuncId → Option (List E → Option E)
def primQ (f : List E → Option E) (args : List E) (h : Bs) : Option E :=
  bif noRefs args then
    match f args with
    | some r => bif r.noRef then some r else none
    | none => none
  else match args.mapM (plainArg h) with
    | some xs => match f xs with
      | some r => bif r.noRef && r.scalar && noRefs xs then some r else none
      | none => none
    | none => none

/-- keep: functions whose result stays a slice of blocks. -/
def callD (P : Program) (prim : PrimD) (keep : FuncId → Bool) (F : Nat) : Nat → CallD
  | 0 => fun _ _ _ _ => none
  | d + 1 => fun g args h c =>
    match (prim g).bind fun f => primQ f args h with
    | some r => some (r, h, c)
    | none => match P.funcs[g]? with
    | some fn => match fn.body with
      | some body =>
        bif Nat.ble args.length fn.ntmps then
          match codeD P (callD P prim keep F d) fn.ntmps F body ⟨setAll 0 args .leaf, h, c⟩ with
          | some (.ex _, _) => none
          | some (_, s) => match resultE P fn s.st fn.ntmps with
            | some e =>
              bif keep g || args.any isPtr then some (e, s.heap, s.c)
              else match outE s.heap c 1000000 e with
                | some r => some (r, oldB s.heap c, s.c)
                | none => some (e, s.heap, s.c)
            | none => none
          | none => none
        else none
      | none => none
    | none => none

end Go.Vm
