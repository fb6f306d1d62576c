/- append, copy, stores and new blocks over abstract states, and that the machine does just this. No condition. -/
import Derived.Test.YtfjmcdacnhfacaaGreatDoorVmG
import Derived.Deep.AppendSrc
set_option linter.all false
namespace Go.Vm
open Go

/-- A block of one's own is made under the name of the slot that holds it. -/
def St.newBlk (s : St) (d : Nat) (cs : List E) : St := { s with heap := updI s.heap (d, s.cnt d) (some ⟨true, cs⟩), cnt := upd s.cnt d (s.cnt d + 1) }

def appendE (P : Program) (t0 t1 : TypeId) (d : Nat) (tt : Option Tmp) (s : St) (x0 x1 : E) : Option St :=
  match tElem P t0 with
  | none => none
  | some el =>
    match tSize P el, tBytes P el with
    | some n, some by_ =>
      if 0 < n ∧ 0 < by_ ∧ tZeroOk P el = true then
        match srcE P t1 n s.heap x1 with
        | none => none
        | some es =>
          match x0 with
          | .nil =>
            if es.length = 0 then some (s.set tt .nil)
            else if es.length / n * by_ ≤ 140737488355328 then some ((s.newBlk d es).set tt (.sl (d, s.cnt d) n 0 (es.length / n))) else none
          | .sl id sz off len =>
            match s.heap id with
            | none => none
            | some blk =>
              if sz = n ∧ off + len * n ≤ blk.cells.length ∧ (blk.excl = true ∨ off + len * n = blk.cells.length) ∧ (len + es.length / n) * by_ ≤ 140737488355328 then
                some (St.set { s with heap := updI (updI s.heap id none) (d, s.cnt d) (some ⟨blk.excl, (blk.cells.drop off).take (len * n) ++ es⟩), cnt := upd s.cnt d (s.cnt d + 1) } tt
                  (.sl (d, s.cnt d) n 0 (len + es.length / n)))
              else none
          | _ => none
      else none
    | _, _ => none

def storeE (P : Program) (t : TypeId) (s : St) (x v : E) : Option St :=
  match x, v.cells with
  | .ptr id off, some es =>
    match s.heap id with
    | some blk => if blk.excl = true ∧ tSize P t = some es.length ∧ off + es.length ≤ blk.cells.length then some { s with heap := updI s.heap id (some ⟨true, setRange blk.cells off es⟩) } else none
    | none => none
  | _, _ => none

section
variable {P : Program} {C : Ctx} {s : St} {φ : Id → Nat × Nat} {a : Act} {w : World}

/-- A step of the machine that gives a value, and what the state becomes. -/
def Steps1 (P : Program) (C : Ctx) (a : Act) (w : World) (m : Sem Value) (d : Option Tmp) (s' : St) : Prop :=
  ∃ v w' φ', m.run P w = .ok v w' ∧ SimAt C s' φ' (a.put d v) w'

theorem cells_list (c : Value) : c.cells.toList.length = c.cells.size := by simp

theorem at_toList (arr : Array Value) (j : Nat) : arr.toList.getD j undef = at_ arr j := by simp [at_, List.getD]

theorem storeE_run {t : TypeId} {cx cv : Value} {x v : E} {s' : St} (h : SimAt C s φ a w) (hx : RepE s.cnt φ (Ok C s.heap φ) w cx x) (hv : RepE s.cnt φ (Ok C s.heap φ) w cv v)
    (he : storeE P t s x v = some s') : ∃ w', (Instr.storeAt t cx cv).run P w = .ok () w' ∧ SimAt C s' φ a w' := by
  unfold storeE at he
  split at he
  · rename_i id off es hes
    split at he
    · rename_i blk hb
      split at he
      · rename_i hc
        obtain ⟨hex, hsz, hle⟩ := hc
        injection he with he; subst he
        cases hx with
        | ptr _ h1 h2 =>
        rename_i b base
        obtain ⟨_, _, arr, T, fr, r1, r2, r3, r4, r5⟩ := h.heap.blk id blk hb
        obtain ⟨g1, g2, g3⟩ := hv.cells hes
        have r1' := r1
        rw [h2] at r1 r2
        simp only at r1 r2
        obtain ⟨w', arr', hr, hW⟩ := run_storeCells_ex (P := P) (off := base + off) cv.cells.toList 0 arr w r1 (by simp; omega) r3 (fun u hu => by
          obtain ⟨j, hj, rfl⟩ := List.mem_iff_getElem.1 hu
          have := g2 j (by simpa [g1] using hj)
          simp only [at_, Array.getD_eq_getD_getElem?] at this
          simp at hj
          simpa [hj] using this)
        refine ⟨w', ?_, ?_⟩
        · simp only [Instr.storeAt, Instr.sureAddr, Sem.run_bind, Sem.run_pure, Result.andThen_ok, storeVar, sizeOf_run hsz, g1, ne_eq, not_true, if_false]
          simpa using hr
        · refine h.store hb hex hle (vs := cv.cells.toList) (by simp [g1]) (fun j hj => by rw [at_toList]; exact g2 j hj) (fun j hj => by rw [at_toList]; exact g3 j hj) r1' (arr' := arr') ?_
          rw [h2]; simpa using hW
      · cases he
    · cases he
  · cases he

theorem newBlk_run {arr : Array Value} {T : TypeId} {cs : List E} (h : SimAt C s φ a w) (hsz : arr.size = cs.length) (ho : ∀ (j : Nat) (hj : j < cs.length), (at_ arr j).oneCell' = true)
    (hc : ∀ (j : Nat) (hj : j < cs.length), RepE s.cnt φ (Ok C s.heap φ) w (at_ arr j) cs[j]) (d : Nat) :
    SimAt C (s.newBlk d cs) (updI φ (d, s.cnt d) (w.heap.size, 0)) a { w with heap := w.heap.push (.cells arr T) } :=
  h.newBlk (w' := { w with heap := w.heap.push (.cells arr T) }) (fr := (0, 0)) rfl ⟨rfl, rfl⟩ (by omega) (fun i _ => by simp) ho hc d true

theorem SimAt.heapEq (h : SimAt C s φ a w) {w' : World} (hw : w'.heap = w.heap) (ho : SameOut w w') : SimAt C s φ a w' := by
  have hk : Keeps (Ok C s.heap φ) w (Ok C s.heap φ) w' := fun b arr T fr hb => ⟨arr, fr, by rw [hw]; exact hb, rfl, fun i hi => ⟨hi, rfl⟩⟩
  have := h.evolve (h' := s.heap) (cnt' := s.cnt) (φ' := φ) (fun _ => Nat.le_refl _) (fun _ _ => rfl) hk
    ⟨fun id b hb => (h.heap.blk id b hb).mono (fun _ => Nat.le_refl _) (fun _ _ => rfl) hk fun arr T fr hr => ⟨arr, fr, by rw [hw]; exact hr, rfl, fun _ _ q => q, fun _ _ => rfl⟩, h.heap.inj⟩
    (fun b _ _ => by rw [hw]) (by rw [hw]; exact Nat.le_refl _) ho
  exact this

theorem getD_append_left (xs ys : List Value) (j : Nat) (h : j < xs.length) : (xs ++ ys).getD j undef = xs.getD j undef := by
  simp [List.getD, List.getElem?_append, h]
theorem getD_append_right (xs ys : List Value) (j : Nat) (h : xs.length ≤ j) : (xs ++ ys).getD j undef = ys.getD (j - xs.length) undef := by
  simp [List.getD, List.getElem?_append, show ¬ j < xs.length by omega]
theorem at_append_left (xs : List Value) (rest : Array Value) (j : Nat) (h : j < xs.length) : at_ (xs.toArray ++ rest) j = xs.getD j undef := by
  simp [at_, List.getD, Array.getElem?_append, h]

/-- A row that append makes. -/
theorem grow_run {t0 t1 ty el : TypeId} {i : TypeInfo} {z : Value} (ht : P.underlying t0 = some (.slice el)) (hi : P.info? el = some i) (hz : i.zero = some z) (hzs : z.cells.size = i.size) (hn0 : 0 < i.size) (hb0 : 0 < i.bytes)
    (h : SimAt C s φ a w) {base : Option Addr} {sLen sCap m : Nat} {olds vs : List Value} {oldE es : List E} {c1 : Value}
    (hold : (Builtin.firstCells i.size sLen (.slice base sLen sCap)).run P w.drew = .ok olds.toArray w.drew) (hol : olds.length = sLen * i.size) (hoe : oldE.length = sLen * i.size)
    (ho : ∀ (j : Nat) (hj : j < oldE.length), (olds.getD j undef).oneCell' = true ∧ RepE s.cnt φ (Ok C s.heap φ) w (olds.getD j undef) oldE[j])
    (hs : Src P i.size t1 c1 m vs w) (hel : es.length = m * i.size)
    (he : ∀ (j : Nat) (hj : j < es.length), RepE s.cnt φ (Ok C s.heap φ) w (vs.getD j undef) es[j])
    (hcap : sCap < sLen + m) (hbnd : (sLen + m) * i.bytes ≤ 140737488355328) (d : Nat) (tt : Option Tmp) (ex : Bool) :
    Steps1 P C a w (Builtin.append_ #[t0, t1] ty #[.slice base sLen sCap, c1]) tt
      (St.set { s with heap := updI s.heap (d, s.cnt d) (some ⟨ex, oldE ++ es⟩), cnt := upd s.cnt d (s.cnt d + 1) } tt (.sl (d, s.cnt d) i.size 0 (sLen + m))) := by
  have hns := nextslicecap_le hcap
  have hneed : sLen + m ≤ 140737488355328 := Nat.le_trans (Nat.le_mul_of_pos_right _ hb0) hbnd
  have hfit : Builtin.nextslicecap (sLen + m) sCap * i.bytes ≤ 281474976710656 := by
    have := Nat.mul_le_mul_right i.bytes hns
    rw [Nat.mul_assoc] at this
    omega
  have hrun := run_append_grow_src (P := P) w t0 t1 ty el i z ht hi hz base sLen sCap olds hold c1 m vs hs hcap (by omega) hfit
  generalize hg : grownCap w (sLen + m) sCap el = newCap at hrun
  have hge : sLen + m ≤ newCap := by rw [← hg]; simp [grownCap, Question.cut]
  generalize hrest : Builtin.zeroCells z.cells (newCap - (sLen + m)) = rest at hrun
  have hrs : rest.size = (newCap - (sLen + m)) * i.size := by rw [← hrest, ← hzs]; simp [Builtin.zeroCells]
  have hvl : vs.length = m * i.size := hs.newsLen
  have hov : (olds ++ vs).length = (sLen + m) * i.size := by simp [hol, hvl, Nat.add_mul]
  have hoe2 : (oldE ++ es).length = (sLen + m) * i.size := by simp [hoe, hel, Nat.add_mul]
  have key : ∀ (j : Nat) (hj : j < (oldE ++ es).length), (at_ ((olds ++ vs).toArray ++ rest) j).oneCell' = true ∧ RepE s.cnt φ (Ok C s.heap φ) w (at_ ((olds ++ vs).toArray ++ rest) j) (oldE ++ es)[j] := by
    intro j hj
    rw [at_append_left _ _ _ (by omega)]
    by_cases hj1 : j < oldE.length
    · rw [getD_append_left _ _ _ (by omega), List.getElem_append_left hj1]
      exact ho j hj1
    · rw [getD_append_right _ _ _ (by omega), List.getElem_append_right (by omega)]
      have e : j - olds.length = j - oldE.length := by omega
      rw [e]
      have hlt : j - oldE.length < es.length := by simp at hj; omega
      refine ⟨?_, he _ hlt⟩
      have hv : j - oldE.length < vs.length := by omega
      have := hs.one (vs.getD (j - oldE.length) undef) (by simp only [List.getD_eq_getElem?_getD, List.getElem?_eq_getElem hv, Option.getD_some]; exact List.getElem_mem hv)
      exact this
  have hsz : (oldE ++ es).length ≤ ((olds ++ vs).toArray ++ rest).size := by simp at hoe2 hov ⊢; omega
  have hnb := h.newBlk (w' := w.drew.alloc (.cells ((olds ++ vs).toArray ++ rest) el)) (T := el) (fr := (0, 0)) rfl ⟨rfl, rfl⟩ hsz (fun k _ => by simp) (fun j hj => (key j hj).1) (fun j hj => (key j hj).2) d ex
  refine ⟨_, _, _, hrun, hnb.set ?_⟩
  have hrow : (w.drew.alloc (.cells ((olds ++ vs).toArray ++ rest) el)).heap[w.heap.size]? = some (.cells ((olds ++ vs).toArray ++ rest) el (0, 0)) := by
    show (w.heap.push _)[w.heap.size]? = _
    simp
  refine RepE.sl (b := w.heap.size) (base := 0) 0 (sLen + m) newCap (by simp [upd]) (by simp [updI]) hn0 hge hrow ?_
  have : (newCap - (sLen + m)) * i.size + (sLen + m) * i.size = newCap * i.size := by rw [← Nat.add_mul]; congr 1; omega
  simp at hov ⊢
  omega

theorem append_run {t0 t1 ty : TypeId} {d : Nat} {tt : Option Tmp} {c0 c1 : Value} {x0 x1 : E} {s' : St} (h : SimAt C s φ a w) (h0 : RepE s.cnt φ (Ok C s.heap φ) w c0 x0) (h1 : RepE s.cnt φ (Ok C s.heap φ) w c1 x1)
    (he : appendE P t0 t1 d tt s x0 x1 = some s') : Steps1 P C a w (Builtin.append_ #[t0, t1] ty #[c0, c1]) tt s' := by
  unfold appendE at he
  split at he
  · cases he
  rename_i el hel
  split at he
  rotate_left
  · cases he
  rename_i n by_ hn hby
  split at he
  rotate_left
  · cases he
  rename_i hpos
  obtain ⟨hn0, hb0, hz⟩ := hpos
  split at he
  · cases he
  rename_i es hes
  have hu := tElem_spec hel
  obtain ⟨i, z, hi, hiz, hzs, rfl, rfl⟩ := tZeroOk_spec hz hn hby
  obtain ⟨m, q1, q2, q3, q5⟩ := src_run (P := P) h.heap hn0 h1 hes
  have hmn : es.length / i.size = m := by rw [q2, Nat.mul_div_cancel _ hn0]
  obtain ⟨vs, v1, v2, v3⟩ := q5 m (Nat.le_refl _)
  have hone : ∀ u ∈ vs, u.oneCell' = true := by
    intro u hu
    obtain ⟨j, hj, rfl⟩ := List.mem_iff_getElem.1 hu
    have := (v3 j (by omega) (by omega)).1
    simpa [List.getD, hj] using this
  have hsrc : Src P i.size t1 c1 m vs w := ⟨q3, q1, v1 w rfl, v1 w.drew rfl, v2, hone⟩
  have hrep : ∀ (j : Nat) (hj : j < es.length), RepE s.cnt φ (Ok C s.heap φ) w (vs.getD j undef) es[j] := fun j hj => (v3 j (by omega) hj).2
  rw [hmn] at he
  split at he
  · -- nil
    cases h0
    split at he
    · rename_i he0
      injection he with he; subst he
      have hm0 : m = 0 := by
        rcases Nat.eq_zero_or_pos m with hm | hm
        · exact hm
        · have := Nat.mul_pos hm hn0; omega
      subst hm0
      refine ⟨.slice none 0 0, w, φ, ?_, h.set .nil⟩
      have v1' := v1 w rfl
      rcases q3 with ⟨e', hk⟩ | hk <;> simp [Builtin.append_, run_underlying hu, run_underlying hk, sizeOf, typeInfo, hi, q1, v1']
    · rename_i he0
      split at he
      · rename_i hbnd
        injection he with he; subst he
        have hmpos : 0 < m := by
          rcases Nat.eq_zero_or_pos m with hm | hm
          · subst hm; exact absurd (by rw [q2]; simp) he0
          · exact hm
        have := grow_run (oldE := []) (olds := []) (es := es) (vs := vs) (base := none) (sLen := 0) (sCap := 0) (m := m) (ty := ty) hu hi hiz hzs hn0 hb0 h (by simp [Builtin.firstCells]) (by simp) (by simp) (fun j hj => by simp at hj)
          hsrc q2 hrep (by omega) (by simpa using hbnd) d tt true
        simpa [St.newBlk] using this
      · cases he
  · -- one's own
    rename_i id sz off len
    split at he
    · cases he
    rename_i blk hb
    split at he
    · rename_i hc
      obtain ⟨rfl, hv, htip, hbnd⟩ := hc
      injection he with he; subst he
      cases h0 with
      | sl _ _ cap g1 g2 g3 g4 g5 g6 =>
      rename_i b base arr0 T0 fr0
      obtain ⟨p1, p2, arr, T, fr, r1, r2, r3, r4, r5⟩ := h.heap.blk id blk hb
      have r1' := r1
      rw [g2] at r1 r2 r4 r5
      simp only at r1 r2 r4 r5
      rw [g5] at r1
      injection r1 with r1; injection r1 with e1 e2 e3; subst e1; subst e2; subst e3
      by_cases hroom : len + m ≤ cap
      · have hmul : (len + m) * i.size ≤ cap * i.size := Nat.mul_le_mul_right _ hroom
        rw [Nat.add_mul] at hmul
        obtain ⟨w', arr', hr, hW⟩ := run_storeCells_ex (P := P) (off := base + off + len * i.size) vs 0 arr0 w g5 (by omega) r3 hone
        refine ⟨.slice (some ⟨b, base + off, none⟩) (len + m) cap, w', _, ?_, (h.growIn (off := off) (k := len * i.size) hb hv htip (vs := vs) (es := es) (by omega)
          (fun j hj => (v3 j (by omega) hj).1) hrep r1' (by rw [g2]; simp only; omega) (arr' := arr') (by rw [g2]; simpa using hW) d).set ?_⟩
        · have v1' := v1 w rfl
          have hr' : (storeCells ⟨b, base + off + len * i.size, none⟩ vs).run P w = .ok () w' := hr
          rcases q3 with ⟨e', hk⟩ | hk <;> simp [Builtin.append_, run_underlying hu, run_underlying hk, sizeOf, typeInfo, hi, q1, hroom, v1', add_plain, hr']
        · refine RepE.sl (b := b) (base := base + off) 0 (len + m) cap (by simp [upd]) (by simp [updI, g2]) g3 hroom (by simpa using hW.row) (by rw [hW.size]; omega)
      · have hk0 : ∀ b i, Ok C s.heap φ b i → Ok C (updI s.heap id none) φ b i := by
          intro b i hi
          rcases hi with ⟨x1, x2⟩ | ⟨x1, x2⟩
          · refine .inl ⟨x1, fun ⟨id', blk', y1, y2, y3⟩ => x2 ?_⟩
            by_cases e : id' = id
            · subst e; simp [updI] at y1
            · simp [updI, e] at y1; exact ⟨id', blk', y1, y2, y3⟩
          · exact .inr ⟨x1, x2⟩
        have hk2 : Keeps (Ok C s.heap φ) w (Ok C (updI s.heap id none) φ) w := Keeps.refl hk0
        have hs1 := h.weaken (h' := updI s.heap id none) fun id' q hq => by
          by_cases e : id' = id
          · subst e; simp [updI] at hq
          · simp [updI, e] at hq; exact ⟨q, hq, rfl, fun x => x⟩
        have hlow : ∀ w0 : World, w0.heap = w.heap → (Builtin.firstCells i.size len (.slice (some ⟨b, base + off, none⟩) len cap)).run P w0 = .ok ((List.range (len * i.size)).map fun j => at_ arr0 (base + off + j)).toArray w0 := by
          intro w0 hw0
          have hlc : len * i.size ≤ cap * i.size := Nat.mul_le_mul_right _ g4
          simp [Builtin.firstCells, run_loadCells_at (w := w0) (by rw [hw0]; exact g5) (n := len * i.size) (off := base + off) (by omega)]
        have hgetD : ∀ j, j < len * i.size → ((List.range (len * i.size)).map fun j => at_ arr0 (base + off + j)).getD j undef = at_ arr0 (base + off + j) := fun j hj => by simp [List.getD, hj]
        have := grow_run (oldE := (blk.cells.drop off).take (len * i.size)) (olds := (List.range (len * i.size)).map fun j => at_ arr0 (base + off + j)) (es := es) (vs := vs) (base := some ⟨b, base + off, none⟩) (sLen := len) (sCap := cap) (m := m) (ty := ty)
          hu hi hiz hzs hn0 hb0 hs1 (hlow _ rfl) (by simp) (by simp; omega)
          (fun j hj => by
            have hj' : j < len * i.size := by simp at hj; omega
            rw [hgetD j hj', Nat.add_assoc]
            refine ⟨r4 _ (by omega), ?_⟩
            have := (r5 (off + j) (by omega)).mono (fun _ => Nat.le_refl _) (fun _ _ => rfl) hk2
            simpa using this)
          hsrc q2 (fun j hj => (hrep j hj).mono (fun _ => Nat.le_refl _) (fun _ _ => rfl) hk2) (by omega) hbnd d tt blk.excl
        exact this
    · cases he
  · cases he

end
end Go.Vm
