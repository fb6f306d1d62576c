/- build, buildSlice, alloc, box, makeSlice, copy, bytes of a text, over abstract states, and that the machine does just this. No condition. -/
import Derived.Test.YtfjmcdacnhfacaaGreatDoorVmH
set_option linter.all false
namespace Go.Vm
open Go

/-- The zero value's cells. -/
def tZero (P : Program) (t : TypeId) : Option (List E) :=
  match P.info? t with
  | some i => match i.zero with
    | some z => if z.cells.size = i.size ∧ z.cells.all (·.oneCell') = true then some (z.cells.toList.map absV) else none
    | none => none
  | none => none

theorem tZero_spec {P : Program} {t : TypeId} {zs : List E} (h : tZero P t = some zs) :
    ∃ i z, P.info? t = some i ∧ i.zero = some z ∧ z.cells.size = i.size ∧ zs = z.cells.toList.map absV ∧ zs.length = i.size ∧ (∀ j, j < z.cells.size → (at_ z.cells j).oneCell' = true) := by
  unfold tZero at h
  split at h
  · rename_i i hi
    split at h
    · rename_i z hz
      split at h
      · rename_i hc
        injection h with h
        refine ⟨i, z, hi, hz, hc.1, h.symm, by rw [← h]; simp [hc.1], fun j hj => ?_⟩
        have h2 := hc.2
        rw [Array.all_eq_true] at h2
        have := h2 j hj
        simpa [at_, hj] using this
      · cases h
    · cases h
  · cases h

/-- Places of a struct's fields. -/
def tPlaces (P : Program) (t : TypeId) : Option (List (Nat × Nat)) :=
  match P.underlying t with
  | some (.struct fs) => fs.toList.mapM fun f => (tSize P f.type).map fun n => (f.offset, n)
  | _ => none

def fillE (place : Nat → Option (Nat × Nat)) (cs : List E) : List (Nat × E) → Option (List E)
  | [] => some cs
  | (i, e) :: rest =>
    match place i, e.cells with
    | some (off, size), some es => if es.length = size ∧ off + size ≤ cs.length then fillE place (setRange cs off es) rest else none
    | _, _ => none

def buildE (P : Program) (t : TypeId) (parts : List (Nat × E)) : Option E :=
  match tZero P t, tPlaces P t with
  | some zs, some ps => (fillE (ps[·]?) zs parts).map mkAgg
  | _, _ => none

section
variable {P : Program} {cnt : Nat → Nat} {φ : Id → Nat × Nat} {A : Nat → Nat → Prop} {w : World}

theorem set_foldl (off : Nat) : ∀ (l : List Value) (k : Nat) (cells : Array Value), off + k + l.length ≤ cells.size →
    ((l.zipIdx k).foldl (fun cs x => cs.setIfInBounds (off + x.2) x.1) cells).size = cells.size ∧
    ∀ i, at_ ((l.zipIdx k).foldl (fun cs x => cs.setIfInBounds (off + x.2) x.1) cells) i = if off + k ≤ i ∧ i < off + k + l.length then l.getD (i - (off + k)) undef else at_ cells i
  | [], k, cells, h => by simp; intro i; omega
  | v :: l, k, cells, h => by
    simp only [List.length_cons] at h
    obtain ⟨h1, h2⟩ := set_foldl off l (k + 1) (cells.setIfInBounds (off + k) v) (by simp; omega)
    simp only [List.zipIdx_cons, List.foldl_cons]
    refine ⟨by rw [h1]; simp, fun i => ?_⟩
    rw [h2 i]
    by_cases e : i = off + k
    · subst e
      rw [if_neg (by omega), if_pos (by simp)]
      simp [at_, show off + k < cells.size by omega]
    · have : at_ (cells.setIfInBounds (off + k) v) i = at_ cells i := by simp [at_, Array.getElem?_setIfInBounds_ne (Ne.symm e)]
      rw [this]
      by_cases hi : off + (k + 1) ≤ i ∧ i < off + (k + 1) + l.length
      · rw [if_pos hi, if_pos (by simp; omega), show i - (off + k) = (i - (off + (k + 1))) + 1 by omega]; simp
      · rw [if_neg hi, if_neg (by simp; omega)]

def RowRep (cnt : Nat → Nat) (φ : Id → Nat × Nat) (A : Nat → Nat → Prop) (w : World) (arr : Array Value) (cs : List E) : Prop :=
  arr.size = cs.length ∧ (∀ (j : Nat) (hj : j < cs.length), (at_ arr j).oneCell' = true) ∧ ∀ (j : Nat) (hj : j < cs.length), RepE cnt φ A w (at_ arr j) cs[j]

theorem fill_rep {place : Nat → Option (Nat × Nat)} : ∀ (parts : List (Nat × Value)) (pe : List (Nat × E)) (arr : Array Value) (cs r : List E),
    pe.length = parts.length → (∀ (j : Nat) (h1 : j < parts.length) (h2 : j < pe.length), parts[j].1 = pe[j].1 ∧ RepE cnt φ A w parts[j].2 pe[j].2) →
    RowRep cnt φ A w arr cs → fillE place cs pe = some r → ∃ arr', Instr.fill place arr parts = some arr' ∧ RowRep cnt φ A w arr' r
  | [], pe, arr, cs, r, hl, _, hr, hf => by
    have : pe = [] := by simpa using hl
    subst this
    simp [fillE] at hf; subst hf
    exact ⟨arr, rfl, hr⟩
  | (i, v) :: parts, pe, arr, cs, r, hl, hp, hr, hf => by
    cases pe with
    | nil => simp at hl
    | cons q pe =>
    obtain ⟨i', e⟩ := q
    have h0 := hp 0 (by simp) (by simp)
    simp only [List.getElem_cons_zero] at h0
    obtain ⟨rfl, hv⟩ := h0
    simp only [fillE] at hf
    split at hf
    · rename_i off size es hpl hes
      split at hf
      · rename_i hc
        obtain ⟨rfl, hfit⟩ := hc
        obtain ⟨g1, g2, g3⟩ := hv.cells hes
        obtain ⟨s1, s2⟩ := set_foldl off v.cells.toList 0 arr (by simp; rw [hr.1]; omega)
        have harr : v.cells.zipIdx.foldl (fun cs x => cs.setIfInBounds (off + x.2) x.1) arr = (v.cells.toList.zipIdx 0).foldl (fun cs x => cs.setIfInBounds (off + x.2) x.1) arr := by
          rw [← Array.foldl_toList]; simp
        have hrow : RowRep cnt φ A w (v.cells.zipIdx.foldl (fun cs x => cs.setIfInBounds (off + x.2) x.1) arr) (setRange cs off es) := by
          rw [harr]
          have hl2 := setRange_length hfit
          refine ⟨by rw [s1, hl2]; exact hr.1, fun j hj => ?_, fun j hj => ?_⟩
          · rw [hl2] at hj
            rw [s2 j]
            by_cases hq : off ≤ j ∧ j < off + es.length
            · rw [if_pos (by simp; omega), at_toList]; exact g2 _ (by omega)
            · rw [if_neg (by simp; omega)]; exact hr.2.1 j hj
          · rw [hl2] at hj
            rw [s2 j, setRange_get hfit j hj]
            by_cases hq : off ≤ j ∧ j < off + es.length
            · rw [if_pos (by simp; omega), at_toList, dif_pos hq]; exact g3 (j - off) (by omega)
            · rw [if_neg (by simp; omega), dif_neg hq]; exact hr.2.2 j hj
        obtain ⟨arr', f1, f2⟩ := fill_rep parts pe _ _ r (by simpa using hl) (fun j h1 h2 => by
          have := hp (j + 1) (by simp; omega) (by simp; omega)
          simpa using this) hrow hf
        refine ⟨arr', ?_, f2⟩
        simp only [Instr.fill, hpl]
        rw [if_neg (by simp; rw [g1, hr.1]; omega)]
        exact f1
      · cases hf
    · cases hf

theorem mapM_places {fs : List Field} {ps : List (Nat × Nat)} (h : fs.mapM (fun f => (tSize P f.type).map fun n => (f.offset, n)) = some ps) :
    (fs.mapM (m := Sem) fun f => do pure (f.offset, ← sizeOf f.type)).run P w = .ok ps w := by
  induction fs generalizing ps with
  | nil => simp at h; subst h; simp
  | cons f fs ih =>
    simp only [List.mapM_cons, Option.bind_eq_bind, Option.bind_eq_some_iff, Option.map_eq_some_iff] at h
    obtain ⟨p, ⟨n, hn, rfl⟩, ps', hps, h⟩ := h
    simp at h; subst h
    have := ih hps
    simp only [List.mapM_cons, Sem.run_bind, sizeOf_run hn, Result.andThen_ok, Sem.run_pure, this]

theorem buildE_gives {t : TypeId} {parts : Array (Nat × Value)} {pe : List (Nat × E)} {e : E} (hl : pe.length = parts.size)
    (hp : ∀ (j : Nat) (h1 : j < parts.size) (h2 : j < pe.length), parts[j].1 = pe[j].1 ∧ RepE cnt φ A w parts[j].2 pe[j].2) (he : buildE P t pe = some e) :
    Gives P cnt φ A w (Instr.build t parts) e := by
  unfold buildE at he
  split at he
  · rename_i zs ps hz hps
    simp only [Option.map_eq_some_iff] at he
    obtain ⟨r, hr, rfl⟩ := he
    obtain ⟨i, z, hi, hiz, hzs, hzz, hzl, hz1⟩ := tZero_spec hz
    unfold tPlaces at hps
    split at hps
    · rename_i fs hu
      have hrow : RowRep cnt φ A w z.cells zs := by
        refine ⟨by rw [hzl]; exact hzs, fun j hj => hz1 j (by omega), fun j hj => ?_⟩
        subst hzz
        have : (z.cells.toList.map absV)[j] = absV (at_ z.cells j) := by simp at hj; simp [at_, hj]
        rw [this]; exact absV_rep _
      obtain ⟨arr', f1, f2⟩ := fill_rep parts.toList pe z.cells zs r (by simpa using hl) (fun j h1 h2 => by simpa using hp j (by simpa using h1) h2) hrow hr
      have hm : (fs.mapM (m := Sem) fun f => do pure (f.offset, ← sizeOf f.type)).run P w = .ok ps.toArray w := by
        rw [← Array.toArray_toList (xs := fs), List.mapM_toArray]
        simp only [Sem.run_map, mapM_places hps, Result.andThen_ok]
      refine ⟨.agg arr', ?_, RepE.mkAgg f2.1 f2.2.1 f2.2.2⟩
      have hf : Instr.fill (fun x => ps.toArray[x]?) z.cells parts.toList = some arr' := by simpa using f1
      simp only [Instr.build, Sem.run_bind, zeroValue, typeInfo, run_program, Result.andThen_ok, hi, Sem.run_pure, hiz, underlying_run hu, hm, hf]
    · cases hps
  · cases he

end

/-! ### what makes a block -/
def concatE (n : Nat) : Nat → List (Nat × E) → Option (List E)
  | _, [] => some []
  | k, (i, e) :: rest =>
    match e.cells with
    | some es => if i = k ∧ es.length = n then (concatE n (k + 1) rest).map (es ++ ·) else none
    | none => none

def zerosE (zs : List E) : Nat → List E
  | 0 => []
  | n + 1 => zs ++ zerosE zs n

/-- What an operation that makes a block makes: its cells, and what stands for it. -/
def evalA (P : Program) (val : Operand → E) : Op → Option (List E × (Id → E))
  | .alloc t => (tZero P t).map fun zs => (zs, fun id => .ptr id 0)
  | .box _ x => (val x).cells.map fun es => (es, fun id => .ptr id 0)
  | .buildSlice t len parts =>
    match tElem P t with
    | some el => match tSize P el, tZero P el with
      | some n, some _ =>
        if 0 < n ∧ parts.size = len ∧ len * n ≤ 16777216 then
          (concatE n 0 (parts.toList.map fun x => (x.1, val x.2))).map fun es => (es, fun id => .sl id n 0 len)
        else none
      | _, _ => none
    | none => none
  | .makeSlice t l c =>
    match tElem P t, val l, val c with
    | some el, .p (.int _ i), .p (.int _ j) => match tSize P el, tBytes P el, tZero P el with
      | some n, some b, some zs =>
        if 0 < n ∧ 0 < b ∧ i = j ∧ 0 ≤ i ∧ i.toNat * b ≤ 140737488355328 then some (zerosE zs i.toNat, fun id => .sl id n 0 i.toNat) else none
      | _, _, _ => none
    | _, _, _ => none
  | .convert src dst x =>
    match val x, tElem P dst with
    | .p (.str s), some el => if tStr P src = true ∧ tInt P el = some .u8 then some (s.map fun b => .p (.int .u8 b.toNat), fun id => .sl id 1 0 s.length) else none
    | _, _ => none
  | _ => none

theorem zerosE_length (zs : List E) : ∀ n, (zerosE zs n).length = n * zs.length
  | 0 => by simp [zerosE]
  | n + 1 => by simp [zerosE, zerosE_length zs n, Nat.add_mul]; omega

theorem zerosE_get {zs : List E} {n : Nat} (hn : 0 < n) (hz : zs.length = n) : ∀ (k j : Nat) (hj : j < (zerosE zs k).length), (zerosE zs k)[j] = zs[j % n]'(by rw [hz]; exact Nat.mod_lt _ hn)
  | 0, j, hj => by simp [zerosE] at hj
  | k + 1, j, hj => by
    simp only [zerosE] at hj ⊢
    by_cases h : j < zs.length
    · rw [List.getElem_append_left h]
      congr 1; rw [Nat.mod_eq_of_lt (by omega)]
    · rw [List.getElem_append_right (by omega), zerosE_get hn hz k (j - zs.length)]
      congr 1
      rw [hz, ← Nat.mod_eq_sub_mod (by omega)]

section
variable {P : Program} {C : Ctx} {s : St} {φ : Id → Nat × Nat} {a : Act} {w : World}

theorem concat_fill {n N : Nat} : ∀ (parts : List (Nat × Value)) (pe : List (Nat × E)) (k : Nat) (arr : Array Value) (es : List E), pe.length = parts.length →
    (∀ (j : Nat) (h1 : j < parts.length) (h2 : j < pe.length), parts[j].1 = pe[j].1 ∧ RepE s.cnt φ (Ok C s.heap φ) w parts[j].2 pe[j].2) → arr.size = N * n → (k + parts.length) * n ≤ arr.size →
    concatE n k pe = some es → es.length = parts.length * n ∧ ∃ arr', Instr.fill (fun i => some (i * n, n)) arr parts = some arr' ∧ arr'.size = arr.size ∧
      (∀ i, i < k * n → at_ arr' i = at_ arr i) ∧ (∀ (j : Nat) (hj : j < es.length), (at_ arr' (k * n + j)).oneCell' = true ∧ RepE s.cnt φ (Ok C s.heap φ) w (at_ arr' (k * n + j)) es[j])
  | [], pe, k, arr, es, hl, hp, hN, hfit, hc => by
    have : pe = [] := by simpa using hl
    subst this
    simp [concatE] at hc; subst hc
    exact ⟨by simp, arr, rfl, rfl, fun _ _ => rfl, fun j hj => by simp at hj⟩
  | (i, v) :: parts, pe, k, arr, es, hl, hp, hN, hfit, hc => by
    cases pe with
    | nil => simp at hl
    | cons q pe =>
    obtain ⟨i', e⟩ := q
    have h0 := hp 0 (by simp) (by simp)
    simp only [List.getElem_cons_zero] at h0
    obtain ⟨rfl, hv⟩ := h0
    simp only [concatE] at hc
    split at hc
    · rename_i ce hce
      split at hc
      · rename_i hcond
        obtain ⟨rfl, hcn⟩ := hcond
        simp only [Option.map_eq_some_iff] at hc
        obtain ⟨es', hes', rfl⟩ := hc
        obtain ⟨g1, g2, g3⟩ := hv.cells hce
        simp only [List.length_cons] at hfit
        have hfit1 : (i + 1) * n ≤ arr.size := Nat.le_trans (Nat.mul_le_mul_right _ (by omega)) hfit
        have hmul : (i + 1) * n = i * n + n := Nat.succ_mul _ _
        obtain ⟨s1, s2⟩ := set_foldl (i * n) v.cells.toList 0 arr (by simp; rw [g1, hcn]; omega)
        have harr : v.cells.zipIdx.foldl (fun cs x => cs.setIfInBounds (i * n + x.2) x.1) arr = (v.cells.toList.zipIdx 0).foldl (fun cs x => cs.setIfInBounds (i * n + x.2) x.1) arr := by
          rw [← Array.foldl_toList]; simp
        generalize harr1 : (v.cells.toList.zipIdx 0).foldl (fun cs x => cs.setIfInBounds (i * n + x.2) x.1) arr = arr1 at *
        obtain ⟨f0, arr', f1, f2, f3, f4⟩ := concat_fill (N := N) parts pe (i + 1) arr1 es' (by simpa using hl) (fun j h1 h2 => by
          have := hp (j + 1) (by simp; omega) (by simp; omega)
          simpa using this) (by rw [s1]; exact hN) (by rw [s1]; have : i + 1 + parts.length = i + (parts.length + 1) := by omega
                                                       rw [this]; exact hfit) hes'
        refine ⟨by simp [hcn, f0, Nat.add_mul]; omega, arr', ?_, by rw [f2, s1], fun j hj => ?_, fun j hj => ?_⟩
        · simp only [Instr.fill]
          rw [if_neg (by simp; rw [g1]; omega), harr]
          exact f1
        · rw [f3 j (by omega), s2 j, if_neg (by omega)]
        · simp only [List.length_append] at hj
          by_cases hq : j < ce.length
          · rw [f3 (i * n + j) (by omega), s2, if_pos (by simp; omega), at_toList, List.getElem_append_left hq, show i * n + j - (i * n + 0) = j by omega]
            exact ⟨g2 j hq, g3 j hq⟩
          · have := f4 (j - ce.length) (by omega)
            rw [show (i + 1) * n + (j - ce.length) = i * n + j by omega] at this
            rw [List.getElem_append_right (by omega)]
            exact this
      · cases hc
    · cases hc

theorem newA_run {op : Op} {cs : List E} {mk : Id → E} {n : Nat} (hv : ∀ x, inSlots n x = true → RepE s.cnt φ (Ok C s.heap φ) w (a.eval x) (s.val x)) (h : SimAt C s φ a w)
    {o : Oper} (hin : ∀ x ∈ o.op.operands, inSlots n x = true) (he : evalA P s.val o.op = some (cs, mk)) (d : Nat) (tt : Option Tmp) :
    ∃ v w' φ', (execOp a.eval o).run P w = .ok (.value v) w' ∧ SimAt C ((s.newBlk d cs).set tt (mk (d, s.cnt d))) φ' (a.put tt v) w' := by
  have ptr : ∀ {arr : Array Value} {T : TypeId}, RowRep s.cnt φ (Ok C s.heap φ) w arr cs → (∃ v, v = Value.pointer (some ⟨w.heap.size, 0, none⟩) ∧ mk = (fun id => E.ptr id 0) ∧
      (execOp a.eval o).run P w = .ok (.value v) { w with heap := w.heap.push (.cells arr T) }) →
      ∃ v w' φ', (execOp a.eval o).run P w = .ok (.value v) w' ∧ SimAt C ((s.newBlk d cs).set tt (mk (d, s.cnt d))) φ' (a.put tt v) w' := by
    rintro arr T hr ⟨v, rfl, rfl, hrun⟩
    refine ⟨_, _, _, hrun, (newBlk_run h hr.1 hr.2.1 hr.2.2 d).set ?_⟩
    exact RepE.ptr (b := w.heap.size) (base := 0) 0 (by simp [St.newBlk, upd]) (by simp [updI])
  have sl : ∀ {arr : Array Value} {T : TypeId} {fr : Nat × Nat} {w' : World} {sz len cap : Nat}, w'.heap = w.heap.push (.cells arr T fr) → SameOut w w' → cs.length ≤ arr.size → (∀ i, i < arr.size → ¬ (fr.1 ≤ i ∧ i < fr.2)) →
      (∀ (j : Nat) (hj : j < cs.length), (at_ arr j).oneCell' = true) → (∀ (j : Nat) (hj : j < cs.length), RepE s.cnt φ (Ok C s.heap φ) w (at_ arr j) cs[j]) → 0 < sz → len ≤ cap → cap * sz ≤ arr.size → mk = (fun id => E.sl id sz 0 len) →
      (execOp a.eval o).run P w = .ok (.value (.slice (some ⟨w.heap.size, 0, none⟩) len cap)) w' →
      ∃ v w' φ', (execOp a.eval o).run P w = .ok (.value v) w' ∧ SimAt C ((s.newBlk d cs).set tt (mk (d, s.cnt d))) φ' (a.put tt v) w' := by
    intro arr T fr w' sz len cap hw hwo hsz hfr ho hc hs0 hlc hfit hmk hrun
    subst hmk
    refine ⟨_, _, _, hrun, (h.newBlk hw hwo hsz hfr ho hc d true).set ?_⟩
    exact RepE.sl (b := w.heap.size) (base := 0) (arr := arr) (T := T) (fr := fr) 0 len cap (by simp [upd]) (by simp [updI]) hs0 hlc (by rw [hw]; simp) (by omega)
  obtain ⟨dst, op, type, pos, after, guard⟩ := o
  simp only at he hin
  unfold evalA at he
  split at he
  · rename_i t
    simp only [Option.map_eq_some_iff] at he
    obtain ⟨zs, hz, he⟩ := he
    injection he with e1 e2; subst e1; subst e2
    obtain ⟨i, z, hi, hiz, hzs, hzz, hzl, hz1⟩ := tZero_spec hz
    refine ptr (arr := z.cells) (T := t) ⟨by rw [hzl]; exact hzs, fun j hj => hz1 j (by omega), fun j hj => ?_⟩ ⟨_, rfl, rfl, ?_⟩
    · subst hzz
      have : (z.cells.toList.map absV)[j] = absV (at_ z.cells j) := by simp at hj; simp [at_, hj]
      rw [this]; exact absV_rep _
    · simp [execOp, Instr.alloc, zeroValue, typeInfo, hi, hiz, newVar, newRow]
  · rename_i t x
    simp only [Option.map_eq_some_iff] at he
    obtain ⟨es, hes, he⟩ := he
    injection he with e1 e2; subst e1; subst e2
    have := (hv x (hin x (by simp [Op.operands]))).cells hes
    exact ptr (arr := (a.eval x).cells) (T := t) this ⟨_, rfl, rfl, by simp [execOp, Instr.box, newVar, newRow]⟩
  · rename_i t len parts
    split at he
    · rename_i el hel
      split at he
      · rename_i n zs hn hz
        split at he
        · rename_i hc
          obtain ⟨hn0, hlen, hle⟩ := hc
          simp only [Option.map_eq_some_iff] at he
          obtain ⟨es, hes, he⟩ := he
          injection he with e1 e2; subst e1
          obtain ⟨i, z, hi, hiz, hzs, hzz, hzl, hz1⟩ := tZero_spec hz
          have hu := tElem_spec hel
          have hni : n = i.size := by unfold tSize at hn; simp [hi] at hn; exact hn.symm
          generalize hbase : (if len * n = 0 then #[] else z.cells) = zc
          generalize hinit : ((Array.range (len * n)).map fun j => zc[j % zc.size]!) = init
          have hisz : init.size = len * n := by rw [← hinit]; simp
          obtain ⟨f0, arr', f1, f2, _, f4⟩ := concat_fill (C := C) (s := s) (φ := φ) (w := w) (n := n) (N := len) (parts.toList.map fun x => (x.1, a.eval x.2)) (parts.toList.map fun x => (x.1, s.val x.2)) 0 init es (by simp)
            (fun j h1 h2 => by
              simp only [List.getElem_map]
              refine ⟨trivial, hv _ (hin _ ?_)⟩
              simp only [Op.operands, List.mem_toArray, List.mem_map]
              exact ⟨_, List.getElem_mem (by simpa using h1), rfl⟩) hisz (by simp [hisz, hlen]) hes
          have hel2 : es.length = len * n := by rw [f0]; simp [hlen]
          refine sl (arr := arr') (T := el) (fr := (0, 0)) (w' := { w with heap := w.heap.push (.cells arr' el) }) (sz := n) (len := len) (cap := len) rfl ⟨rfl, rfl⟩ (by omega) (fun i _ => by simp) (fun j hj => by simpa using (f4 j hj).1)
            (fun j hj => by simpa using (f4 j hj).2) hn0 (Nat.le_refl _) (by omega) e2.symm ?_
          have hf : Instr.fill (fun i => some (i * n, n)) init (parts.map fun x => (x.1, a.eval x.2)).toList = some arr' := by simpa using f1
          have hbig : ¬ (len * n > 2 ^ 24) := by omega
          have hsize : (sizeOf el).run P w = .ok n w := sizeOf_run hn
          have hzero : (zeroValue el).run P w = .ok z w := by simp [zeroValue, typeInfo, hi, hiz]
          have hfz : ∀ zc' : Array Value, zc' = zc → Instr.fill (fun i => some (i * n, n)) ((Array.range (len * n)).map (fun x => zc'[x % zc'.size]!)) (parts.map fun x => (x.1, a.eval x.2)).toList = some arr' := by
            rintro _ rfl; rw [hinit]; exact hf
          simp only [execOp, Instr.buildSlice, Sem.run_bind, underlying_run hu, Result.andThen_ok, hsize, hbig, if_false]
          by_cases h0 : len * n = 0
          · rw [if_pos h0] at hbase
            have := hfz #[] hbase
            rw [if_pos h0]
            simp only [Sem.run_bind, Sem.run_pure, Result.andThen_ok, this, newRow, run_newObj]
          · rw [if_neg h0] at hbase
            have := hfz z.cells hbase
            rw [if_neg h0]
            simp only [Sem.run_bind, hzero, Sem.run_pure, Result.andThen_ok, this, newRow, run_newObj]
        · cases he
      · cases he
    · cases he
  · rename_i t l c
    split at he
    · rename_i el k i k' j hel hl hc
      split at he
      · rename_i n b zs hn hb hz
        split at he
        · rename_i hcond
          obtain ⟨hn0, hb0, rfl, hi0, hbnd⟩ := hcond
          injection he with he
          injection he with e1 e2; subst e1
          obtain ⟨ti, z, hi, hiz, hzs, hzz, hzl, hz1⟩ := tZero_spec hz
          have hu := tElem_spec hel
          have hni : n = ti.size := by unfold tSize at hn; simp [hi] at hn; exact hn.symm
          have hbi : b = ti.bytes := by unfold tBytes at hb; simp [hi] at hb; exact hb.symm
          have vl := hv l (hin l (by simp [Op.operands]))
          have vc := hv c (hin c (by simp [Op.operands]))
          rw [hl] at vl
          rw [hc] at vc
          generalize hcl : a.eval l = cl at *
          generalize hcc : a.eval c = cc at *
          cases vl with
          | p vl =>
          cases vc with
          | p vc =>
          cases vl; cases vc
          have hlen := zerosE_length zs i.toNat
          have hzn : zs.length = n := by omega
          generalize harr : ((Array.range (i.toNat * n)).map fun q => z.cells[q % z.cells.size]!) = arr
          have hsz : arr.size = i.toNat * n := by rw [← harr]; simp
          have hget : ∀ q, q < i.toNat * n → at_ arr q = at_ z.cells (q % n) := by
            intro q hq
            have hm : q % z.cells.size < z.cells.size := Nat.mod_lt _ (by omega)
            rw [← harr]
            have : z.cells.size = n := by omega
            simp [at_, hq, hm, this, Nat.mod_lt q hn0]
          have hin' : i.toNat ≤ 140737488355328 := Nat.le_trans (Nat.le_mul_of_pos_right _ hb0) hbnd
          have hwr : IntKind.i64.wrap i = i := by
            simp only [IntKind.wrap, IntKind.bits, IntKind.signed]
            have : i % 2 ^ 64 = i := Int.emod_eq_of_lt hi0 (by omega)
            simp [this]; omega
          refine sl (arr := arr) (T := el) (fr := (0, 0)) (w' := { w with heap := w.heap.push (.cells arr el) }) (sz := n) (len := i.toNat) (cap := i.toNat) rfl ⟨rfl, rfl⟩ (by rw [hlen, hzn]; omega) (fun i _ => by simp) (fun q hq => ?_) (fun q hq => ?_) hn0 (Nat.le_refl _) (by omega) e2.symm ?_
          · rw [hlen, hzn] at hq
            rw [hget q hq]; exact hz1 _ (by have := Nat.mod_lt q hn0; omega)
          · have hq' := hq
            rw [hlen, hzn] at hq'
            rw [hget q hq', zerosE_get hn0 hzn]
            subst hzz
            have hm : q % n < z.cells.size := by have := Nat.mod_lt q hn0; omega
            have : (z.cells.toList.map absV)[q % n]'(by simpa using hm) = absV (at_ z.cells (q % n)) := by simp [at_, hm]
            rw [this]; exact absV_rep _
          · have hint : ((ti.bytes : Int) * i) ≤ 281474976710656 := by
              have e : ((i.toNat * ti.bytes : Nat) : Int) = ti.bytes * i := by rw [Int.natCast_mul, Int.toNat_of_nonneg hi0, Int.mul_comm]
              rw [← e]; rw [← hbi]; omega
            have hbad : ¬ ((i < 0 ∨ 281474976710656 < (ti.bytes : Int) * i) ∨ i < 0) := by omega
            have hzero : (zeroValue el).run P w = .ok z w := by simp [zeroValue, typeInfo, hi, hiz]
            have c1 : ((decide (i < 0) || decide (↑ti.bytes * i > (2 : Int) ^ 48)) || decide (i < 0) || decide (i > i)) = false := by
              simp; omega
            have hnz : i.toNat * n = 0 → (#[] : Array Value) = arr := fun h0 => by
              have : arr.size = 0 := by omega
              exact (Array.eq_empty_of_size_eq_zero this).symm
            have hsize : (sizeOf el).run P w = .ok n w := sizeOf_run hn
            simp only [execOp, hcl, hcc, Instr.makeSlice, Sem.run_bind, underlying_run hu, Result.andThen_ok, asInt, asIntOf, Sem.run_pure, typeInfo, run_program, hi, hwr]
            rw [if_neg (by simpa using c1)]
            simp only [Sem.run_bind, run_askRoom, Result.andThen_ok, hsize]
            by_cases h0 : i.toNat * n = 0
            · rw [if_pos h0]
              have e0 : ((Array.range (i.toNat * n)).map fun q => (#[] : Array Value)[q % (#[] : Array Value).size]!) = arr := by rw [h0, ← hnz h0]; simp
              simp only [Sem.run_bind, Sem.run_pure, Result.andThen_ok, e0, newRow, run_newObj]
            · rw [if_neg h0]
              simp only [Sem.run_bind, hzero, Sem.run_pure, Result.andThen_ok, harr, newRow, run_newObj]
        · cases he
      · cases he
    · cases he
  · rename_i src dst x
    split at he
    · rename_i str el hs hel
      split at he
      · rename_i hcond
        obtain ⟨h1, h2⟩ := hcond
        injection he with he
        injection he with e1 e2; subst e1
        have vx := hv x (hin x (by simp [Op.operands]))
        rw [hs] at vx
        generalize hcx : a.eval x = cx at *
        cases vx with
        | p vx =>
        cases vx
        have hu := tElem_spec hel
        have hk := tInt_spec h2
        generalize hq : (Question.appendCap (⟨str.toArray⟩ : ByteArray).size 0 el).cut (w.tape w.drawn (.appendCap (⟨str.toArray⟩ : ByteArray).size 0 el)) = cap
        have hge : str.length ≤ cap := by rw [← hq, string_size]; simp [Question.cut]
        generalize harr : ((⟨str.toArray⟩ : ByteArray).data.map (fun b => Value.int .u8 b.toNat) ++ Array.replicate (cap - (⟨str.toArray⟩ : ByteArray).size) (.int .u8 0)) = arr
        have hsz : arr.size = cap := by rw [← harr, string_size]; simp; omega
        have hget : ∀ q (hq : q < str.length), at_ arr q = .int .u8 str[q].toNat := by
          intro q hq
          rw [← harr]
          simp [at_, Array.getElem?_append, hq]
        have hfrz : ({ w with drawn := w.drawn + 1, heap := w.heap.push (.cells arr el) } : World).freeze ⟨w.heap.size, cap, none⟩ 1 = { w with drawn := w.drawn + 1, heap := w.heap.push (.cells arr el (cap, cap + 1)) } := by
          simp only [World.freeze, Nat.one_ne_zero, if_false]
          congr 1
          apply Array.ext
          · simp
          · intro k h1 h2
            simp only [Array.getElem_modify]
            by_cases e : w.heap.size = k
            · subst e; simp
            · simp [e]; rw [Array.getElem_push_lt, Array.getElem_push_lt] <;> (simp at h2; omega)
        refine sl (arr := arr) (T := el) (fr := (cap, cap + 1)) (w' := { w with drawn := w.drawn + 1, heap := w.heap.push (.cells arr el (cap, cap + 1)) }) (sz := 1) (len := str.length) (cap := cap) rfl ⟨rfl, rfl⟩ (by simp; omega)
          (fun q hq => by simp only; omega) (fun q hq => by rw [hget q (by simpa using hq)]; rfl) (fun q hq => by rw [hget q (by simpa using hq)]; simpa using RepE.p (.int _ _)) (by omega) hge (by omega) e2.symm ?_
        simp only [execOp, hcx, convert, Sem.run_bind, underlying_run (tStr_spec h1), underlying_run hu, underlying_run hk, Result.andThen_ok, Conv.stringToBytes, run_choose, Question.forced, Bool.false_eq_true, if_false, hq, harr, newRow, run_newObj, Sem.run_pure,
          markStringish, run_shape, World.shape?]
        simp [hsz, string_size, hfrz]
      · cases he
    · cases he
  · cases he

end
end Go.Vm
