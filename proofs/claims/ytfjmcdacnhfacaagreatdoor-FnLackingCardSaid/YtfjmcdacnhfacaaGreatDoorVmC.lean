/- What the quiet operations give, over slot values; and that the machine gives just this. No condition. -/
import Derived.Test.YtfjmcdacnhfacaaGreatDoorVmB
set_option linter.all false
namespace Go.Vm
open Go

/-! ### types -/
def tAgg (P : Program) (t : TypeId) : Option Bool :=
  match P.underlying t with
  | some (.struct _) => some true
  | some (.array _ _) => some true
  | some _ => some false
  | none => none
def tSize (P : Program) (t : TypeId) : Option Nat := (P.info? t).map (·.size)
def tElem (P : Program) (t : TypeId) : Option TypeId :=
  match P.underlying t with
  | some (.slice e) => some e
  | _ => none
/-- A field's place and size (not 0), and whether it is a struct. -/
def tField (P : Program) (t : TypeId) (k : Nat) : Option (Nat × Nat) :=
  match P.underlying t with
  | some (.struct fs) =>
    match fs[k]? with
    | some f => match tSize P f.type with
      | some (n + 1) => some (f.offset, n + 1)
      | _ => none
    | none => none
  | _ => none

def tStr (P : Program) (t : TypeId) : Bool :=
  match P.underlying t with
  | some .string => true
  | _ => false
def tBool (P : Program) (t : TypeId) : Bool :=
  match P.underlying t with
  | some .bool => true
  | _ => false
def tInt (P : Program) (t : TypeId) : Option IntKind :=
  match P.underlying t with
  | some (.int k) => some k
  | _ => none
theorem tStr_spec {P : Program} {t : TypeId} (h : tStr P t = true) : P.underlying t = some .string := by
  unfold tStr at h; split at h <;> first | assumption | cases h
theorem tBool_spec {P : Program} {t : TypeId} (h : tBool P t = true) : P.underlying t = some .bool := by
  unfold tBool at h; split at h <;> first | assumption | cases h
theorem tInt_spec {P : Program} {t : TypeId} {k : IntKind} (h : tInt P t = some k) : P.underlying t = some (.int k) := by
  unfold tInt at h; split at h
  · injection h with h; subst h; assumption
  · cases h
theorem tElem_spec {P : Program} {t e : TypeId} (h : tElem P t = some e) : P.underlying t = some (.slice e) := by
  unfold tElem at h; split at h
  · injection h with h; subst h; assumption
  · cases h

/-! ### single values -/
def intB (op : BinOp) (k : IntKind) (a b : Int) : Option P :=
  match op with
  | .add => some (.int k (k.wrap (a + b)))
  | .sub => some (.int k (k.wrap (a - b)))
  | .mul => some (.int k (k.wrap (a * b)))
  | .quo => if b = 0 then none else some (.int k (k.wrap (a.tdiv b)))
  | .rem => if b = 0 then none else some (.int k (a.tmod b))
  | .and => some (.int k (k.wrap (BitVec.ofInt k.bits a &&& BitVec.ofInt k.bits b).toNat))
  | .or => some (.int k (k.wrap (BitVec.ofInt k.bits a ||| BitVec.ofInt k.bits b).toNat))
  | .xor => some (.int k (k.wrap (BitVec.ofInt k.bits a ^^^ BitVec.ofInt k.bits b).toNat))
  | .andNot => some (.int k (k.wrap (BitVec.ofInt k.bits a &&& ~~~ BitVec.ofInt k.bits b).toNat))
  | .eql => some (.bool (decide (a = b)))
  | .neq => some (.bool (!decide (a = b)))
  | .lss => some (.bool (decide (a < b)))
  | .leq => some (.bool (decide (a ≤ b)))
  | .gtr => some (.bool (decide (a > b)))
  | .geq => some (.bool (decide (a ≥ b)))
  | _ => none

def strB (op : BinOp) (a b : List UInt8) : Option P :=
  match op with
  | .add => if a.length + b.length ≤ 9223372036854775807 then some (.str (a ++ b)) else none
  | .eql => some (.bool (decide (a = b)))
  | .neq => some (.bool (!decide (a = b)))
  | .lss => some (.bool (decide (a < b)))
  | .leq => some (.bool (decide (a < b) || decide (a = b)))
  | .gtr => some (.bool (!(decide (a < b) || decide (a = b))))
  | .geq => some (.bool (!decide (a < b)))
  | _ => none

inductive FK where
  | int | str | bool
  deriving DecidableEq

/-- Whether two rows of single values of these kinds are alike. -/
def cellsEq : List FK → List P → List P → Option Bool
  | [], [], [] => some true
  | .int :: ks, .int k a :: r, .int k' b :: s => if k = k' then (cellsEq ks r s).map (decide (a = b) && ·) else none
  | .str :: ks, .str a :: r, .str b :: s => (cellsEq ks r s).map (decide (a = b) && ·)
  | .bool :: ks, .bool a :: r, .bool b :: s => (cellsEq ks r s).map (decide (a = b) && ·)
  | _, _, _ => none

def fieldKind (P : Program) (f : Field) (i : Nat) : Option FK :=
  if f.name ≠ "_" ∧ f.offset = i ∧ tSize P f.type = some 1 then
    match P.underlying f.type with
    | some (.int _) => some .int
    | some .string => some .str
    | some .bool => some .bool
    | _ => none
  else none

def fieldKinds (P : Program) : List Field → Nat → Option (List FK)
  | [], _ => some []
  | f :: fs, i => (fieldKind P f i).bind fun k => (fieldKinds P fs (i + 1)).map (k :: ·)

/-- The fields of a struct of numbers, texts and bools alone: each of one cell, in order. -/
def tFlat (P : Program) (t : TypeId) : Option (List FK) :=
  match P.underlying t with
  | some (.struct fs) => if P.eqGuardType P.depth t = false ∧ P.stoodInHeld t = false then fieldKinds P fs.toList 0 else none
  | _ => none

def binE (P : Program) (op : BinOp) (t : TypeId) : E → E → Option E
  | .p (.int k a), .p (.int k' b) =>
    if op = .shl then (if b < 0 then none else some (.p (.int k (k.wrap (a * 2 ^ (min b.toNat k.bits))))))
    else if op = .shr then (if b < 0 then none else some (.p (.int k (a.fdiv (2 ^ (min b.toNat k.bits))))))
    else if k = k' then (intB op k a b).map .p else none
  | .p (.str a), .p (.str b) => (strB op a b).map .p
  | .p (.bool a), .p (.bool b) =>
    if tBool P t = true then
      match op with
      | .eql => some (.p (.bool (decide (a = b))))
      | .neq => some (.p (.bool (!decide (a = b))))
      | _ => none
    else none
  | .p (.agg a), .p (.agg b) => match tFlat P t with
    | some ks => match op with
      | .eql => (cellsEq ks a b).map fun r => .p (.bool r)
      | .neq => (cellsEq ks a b).map fun r => .p (.bool (!r))
      | _ => none
    | none => none
  | _, _ => none

def unE (op : UnOp) : E → Option E
  | .p (.int k n) =>
    match op with
    | .neg => some (.p (.int k (k.wrap (0 - n))))
    | .xor => some (.p (.int k (k.wrap (BitVec.ofInt k.bits (if k.signed then -1 else k.max) ^^^ BitVec.ofInt k.bits n).toNat)))
    | _ => none
  | .p (.bool b) => match op with
    | .not => some (.p (.bool (!b)))
    | _ => none
  | _ => none

/-! ### memory -/
def loadE (P : Program) (t : TypeId) (h : Heap) : E → Option E
  | .ptr id off => match tAgg P t, tSize P t, h id with
    | some true, some n, some blk => if off + n ≤ blk.cells.length then some (mkAgg ((blk.cells.drop off).take n)) else none
    | some false, some _, some blk => blk.cells[off]?
    | _, _, _ => none
  | .pp cs => match tAgg P t, tSize P t with
    | some true, some n => if n ≤ cs.length then some (.p (.agg (cs.take n))) else none
    | some false, some _ => (cs[0]?).map .p
    | _, _ => none
  | _ => none

def fieldAddrE (P : Program) (t : TypeId) (k : Nat) : E → Option E
  | .ptr id off => match tField P t k with
    | some (o, _) => some (.ptr id (off + o))
    | none => none
  | .pp cs => match tField P t k with
    | some (o, _) => if o ≤ cs.length then some (.pp (cs.drop o)) else none
    | none => none
  | _ => none

def fieldE (P : Program) (t : TypeId) (k : Nat) : E → Option E
  | .p (.agg cs) => match P.underlying t with
    | some (.struct fs) => match fs[k]? with
      | some f => match tAgg P f.type, tSize P f.type with
        | some true, some n => if f.offset + n ≤ cs.length then some (.p (.agg ((cs.drop f.offset).take n))) else none
        | some false, some _ => (cs[f.offset]?).map .p
        | _, _ => none
      | none => none
    | _ => none
  | _ => none

def indexAddrE (P : Program) (t : TypeId) : E → E → Option E
  | .sl id sz off len, .p (.int _ i) => match (tElem P t).bind (tSize P) with
    | some n => if n = sz ∧ 0 ≤ i ∧ i < len then some (.ptr id (off + i.toNat * sz)) else none
    | none => none
  | .p (.list sz cs), .p (.int _ i) => match (tElem P t).bind (tSize P) with
    | some n => if n = sz ∧ 0 < sz ∧ 0 ≤ i ∧ i.toNat * sz + sz ≤ cs.length then some (.pp (cs.drop (i.toNat * sz))) else none
    | none => none
  | _, _ => none

def indexE (P : Program) (t : TypeId) : E → E → Option E
  | .p (.str l), .p (.int _ i) =>
    if tStr P t = true then
      if 0 ≤ i then (l[i.toNat]?).map fun b => .p (.int .u8 b.toNat) else none
    else none
  | _, _ => none

def lenE (P : Program) (t : TypeId) : E → Option E
  | .p (.str l) => if tStr P t = true then some (.p (.int .i64 l.length)) else none
  | .p (.list sz cs) => if (tElem P t).isSome = true then some (.p (.int .i64 ((cs.length / sz : Nat) : Int))) else none
  | .sl _ _ _ len => if (tElem P t).isSome = true then some (.p (.int .i64 len)) else none
  | .nil => if (tElem P t).isSome = true then some (.p (.int .i64 0)) else none
  | _ => none

/-- A bound of a slice expression; what stands for a missing one. -/
def boundE (d : Nat) : Option E → Option Int
  | none => some d
  | some (.p (.int _ i)) => some i
  | _ => none

def sliceE (P : Program) (t : TypeId) (x : E) (lo hi mx : Option E) : Option E :=
  match mx, x with
  | some _, _ => none
  | none, .p (.str s) =>
    if tStr P t = true then
      match boundE 0 lo, boundE s.length hi with
      | some l, some h => if 0 ≤ l ∧ l ≤ h ∧ h ≤ s.length then some (.p (.str ((s.take h.toNat).drop l.toNat))) else none
      | _, _ => none
    else none
  | none, .p (.list sz cs) =>
    match (tElem P t).bind (tSize P) with
    | some n =>
      match boundE 0 lo, boundE (cs.length / sz) hi with
      | some l, some h => if n = sz ∧ 0 ≤ l ∧ l ≤ h ∧ h ≤ ((cs.length / sz : Nat) : Int) then some (.p (.list sz ((cs.take (h.toNat * sz)).drop (l.toNat * sz)))) else none
      | _, _ => none
    | none => none
  | none, .sl id sz off len =>
    match (tElem P t).bind (tSize P) with
    | some n =>
      match boundE 0 lo, boundE len hi with
      | some l, some h => if n = sz ∧ 0 ≤ l ∧ l ≤ h ∧ h ≤ len then
          (if l = h then some (.p (.list sz [])) else some (.sl id sz (off + l.toNat * sz) (h.toNat - l.toNat))) else none
      | _, _ => none
    | none => none
  | none, .nil =>
    match (tElem P t).bind (tSize P) with
    | some n =>
      match boundE 0 lo, boundE 0 hi with
      | some l, some h => if l = 0 ∧ h = 0 then some (.p (.list n [])) else none
      | _, _ => none
    | none => none
  | _, _ => none

def convE (P : Program) (src dst : TypeId) : E → Option E
  | .p (.int _ n) => match tInt P src, tInt P dst with
    | some _, some k' => some (.p (.int k' (k'.wrap n)))
    | _, _ => none
  | .p (.str l) => if tStr P src = true ∧ tStr P dst = true then some (.p (.str l)) else none
  | _ => none

def pickE (t : Bool) (a b : E) : E :=
  match a, b with
  | .p (.bool x), .p (.bool y) => .p (.bool (if t then x else y))
  | a, b => if t then a else b

def nilCheckE : E → Option E
  | .ptr id off => some (.ptr id off)
  | .pp cs => some (.pp cs)
  | .fn f cs => some (.fn f cs)
  | _ => none

def extractE (i : Nat) : E → Option E
  | .tup vs => vs[i]?
  | _ => none

def maxE (gt : Bool) : E → E → Option E
  | .p (.int k a), .p (.int k' b) => if k = k' then some (.p (.int k (if (if gt then b > a else b < a) then b else a))) else none
  | _, _ => none

/-- What a quiet operation gives. -/
def evalS (P : Program) (val : Operand → E) (h : Heap) : Op → Option E
  | .move x => some (val x)
  | .assign x => some (val x)
  | .pick c a b => match val c with
    | .p (.bool t) => some (pickE t (val a) (val b))
    | _ => none
  | .load t x => loadE P t h (val x)
  | .nilCheck x => nilCheckE (val x)
  | .binOp op t x y _ => binE P op t (val x) (val y)
  | .unOp op _ x => unE op (val x)
  | .convert src dst x => convE P src dst (val x)
  | .makeFunc (.func f) first caps => if first.size = 0 then some (.fn f (caps.toList.map val)) else none
  | .slice t x lo hi mx => sliceE P t (val x) (lo.map val) (hi.map val) (mx.map val)
  | .fieldAddr t x k => fieldAddrE P t k (val x)
  | .field t x k => fieldE P t k (val x)
  | .indexAddr t x i => indexAddrE P t (val x) (val i)
  | .index t x i => indexE P t (val x) (val i)
  | .extract x i => extractE i (val x)
  | .call { callee := .builtin b, args, argTypes } =>
    match b, args.toList, argTypes.toList with
    | .len, [x], [t] => lenE P t (val x)
    | .max, [x, y], _ => maxE true (val x) (val y)
    | .min, [x, y], _ => maxE false (val x) (val y)
    | _, _, _ => none
  | _ => none

end Go.Vm
