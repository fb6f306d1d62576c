/- copy, and the text of bytes, over abstract states, and that the machine does just this. No condition. -/
import Derived.Test.YtfjmcdacnhfacaaGreatDoorVmI
set_option linter.all false
namespace Go.Vm
open Go

def copyE (P : Program) (t0 t1 : TypeId) (d : Option Tmp) (s : St) (x0 x1 : E) : Option St :=
  match tElem P t0 with
  | none => none
  | some el =>
    match tSize P el, x0 with
    | some n, .sl id sz off len =>
      match srcE P t1 n s.heap x1, s.heap id with
      | some es, some blk =>
        if 0 < n ∧ sz = n ∧ blk.excl = true ∧ off + len * n ≤ blk.cells.length then
          some (St.set { s with heap := updI s.heap id (some ⟨true, setRange blk.cells off (es.take (min (es.length / n) len * n))⟩) } d (.p (.int .i64 (min (es.length / n) len : Nat))))
        else none
      | _, _ => none
    | _, _ => none

def bytesP : List P → Option (List UInt8)
  | [] => some []
  | .int .u8 n :: r => (bytesP r).map (UInt8.ofNat n.toNat :: ·)
  | _ => none

def pCells : List E → Option (List P) := allP

/-- The text of a slice of bytes. -/
def textE (P : Program) (src dst : TypeId) (h : Heap) (x : E) : Option E :=
  if tStr P dst = true ∧ (tElem P src).bind (tInt P) = some .u8 then
    match x with
    | .nil => some (.p (.str []))
    | .p (.list 1 cs) => (bytesP cs).map fun l => .p (.str l)
    | .sl id 1 off len => match h id with
      | some blk => if off + len ≤ blk.cells.length then ((allP ((blk.cells.drop off).take len)).bind bytesP).map fun l => .p (.str l) else none
      | none => none
    | _ => none
  else none

section
variable {P : Program} {cnt : Nat → Nat} {φ : Id → Nat × Nat} {A : Nat → Nat → Prop} {w : World}

theorem bytes_loop {f : Value → ByteArray → Sem (ForInStep ByteArray)} (hf : ∀ n r, f (.int .u8 n) r = pure (ForInStep.yield (r.push (UInt8.ofNat n.toNat)))) :
    ∀ (vs : List Value) (ps : List Vm.P) (l : List UInt8) (acc : ByteArray), vs.length = ps.length → (∀ (j : Nat) (h1 : j < vs.length) (h2 : j < ps.length), RepP A w vs[j] ps[j]) → bytesP ps = some l →
    (forIn (m := Sem) vs acc f).run P w = .ok (acc ++ ⟨l.toArray⟩) w
  | [], ps, l, acc, hl, hr, hb => by
    have : ps = [] := by simpa using hl.symm
    subst this
    simp [bytesP] at hb; subst hb
    have : acc ++ (⟨#[]⟩ : ByteArray) = acc := by apply ByteArray.ext; simp
    simp [this]
  | v :: vs, ps, l, acc, hl, hr, hb => by
    cases ps with
    | nil => simp at hl
    | cons p ps =>
    have h0 := hr 0 (by simp) (by simp)
    have htail : ∀ (j : Nat) (h1 : j < vs.length) (h2 : j < ps.length), RepP A w vs[j] ps[j] := fun j h1 h2 => by
      have := hr (j + 1) (by simp; omega) (by simp; omega)
      simp only [List.getElem_cons_succ] at this
      exact this
    simp only [List.getElem_cons_zero] at h0
    unfold bytesP at hb
    split at hb
    · rename_i h; cases h
    · rename_i n r he
      injection he with e1 e2; subst e1; subst e2
      simp only [Option.map_eq_some_iff] at hb
      obtain ⟨l', hl', rfl⟩ := hb
      cases h0
      have ih := bytes_loop hf vs _ l' (acc.push (UInt8.ofNat n.toNat)) (by simpa using hl) htail hl'
      simp only [List.forIn_cons, hf, Sem.run_bind, Sem.run_pure, Result.andThen_ok]
      rw [ih]
      congr 1
      apply ByteArray.ext
      simp
    · cases hb

theorem textE_gives {own : Nat → Prop} {h : Heap} (hh : HRel own A h cnt φ w) {src dst : TypeId} {c : Value} {x e : E} (hx : RepE cnt φ A w c x) (he : textE P src dst h x = some e) :
    Gives P cnt φ A w (convert src dst c) e := by
  unfold textE at he
  split at he
  rotate_left
  · cases he
  rename_i hc
  obtain ⟨hd, hs⟩ := hc
  have hud := tStr_spec hd
  simp only [Option.bind_eq_some_iff] at hs
  obtain ⟨el, hel, hk⟩ := hs
  have hus := tElem_spec hel
  have huk := tInt_spec hk
  have row : ∀ {b off len cap : Nat} {arr : Array Value} {T : TypeId} {fr : Nat × Nat} {ps : List Vm.P} {l : List UInt8}, w.heap[b]? = some (.cells arr T fr) → off + len ≤ arr.size → ps.length = len →
      (∀ (j : Nat) (hj : j < ps.length), RepP A w (at_ arr (off + j)) ps[j]) → bytesP ps = some l → Gives P cnt φ A w (convert src dst (.slice (some ⟨b, off, none⟩) len cap)) (.p (.str l)) := by
    intro b off len cap arr T fr ps l hb hfit hlen hr hl
    refine ⟨.string ⟨l.toArray⟩, ?_, .p (.str l)⟩
    have hload := run_loadCells_at (P := P) hb (n := len) (off := off) hfit
    have hloop := fun {f} hf => bytes_loop (P := P) (A := A) (w := w) (f := f) hf ((List.range len).map fun j => at_ arr (off + j)) ps l ByteArray.empty (by simp [hlen]) (fun j h1 h2 => by simpa using hr j h2) hl
    have he : (ByteArray.empty ++ ⟨l.toArray⟩ : ByteArray) = ⟨l.toArray⟩ := by apply ByteArray.ext; simp
    simp only [he] at hloop
    simp only [convert, Sem.run_bind, underlying_run hus, underlying_run hud, underlying_run huk, Result.andThen_ok, Conv.bytesToString, hload]
    rw [← Array.forIn_toList]
    rw [hloop (fun n r => rfl)]
    rfl
  split at he
  · injection he with he; subst he
    cases hx
    refine ⟨.string .empty, ?_, .p ?_⟩
    · simp only [convert, Sem.run_bind, underlying_run hus, underlying_run hud, underlying_run huk, Result.andThen_ok, Conv.bytesToString, Sem.run_pure]
    · exact RepP.str []
  · rename_i cs
    simp only [Option.map_eq_some_iff] at he
    obtain ⟨l, hl, rfl⟩ := he
    cases hx with
    | p hx =>
    cases hx with
    | empty ad cap =>
      simp [bytesP] at hl; subst hl
      cases ad with
      | none =>
        refine ⟨.string .empty, ?_, .p (RepP.str [])⟩
        simp only [convert, Sem.run_bind, underlying_run hus, underlying_run hud, underlying_run huk, Result.andThen_ok, Conv.bytesToString, Sem.run_pure]
      | some ad =>
        refine ⟨.string .empty, ?_, .p (RepP.str [])⟩
        simp [convert, underlying_run hus, underlying_run hud, underlying_run huk, Conv.bytesToString, loadCells, loadCellsFrom]
    | list g1 g2 g3 g4 g5 gA g6 g7 =>
      exact row g1 (by omega) (by omega) g7 hl
  · rename_i id off len
    split at he
    · rename_i blk hb
      split at he
      · rename_i hle
        simp only [Option.map_eq_some_iff, Option.bind_eq_some_iff] at he
        obtain ⟨l, ⟨ps, hps, hl⟩, rfl⟩ := he
        have hcells := allP_spec hps
        have hlen : ps.length = len := by
          have := congrArg List.length hcells
          simp at this; omega
        cases hx with
        | sl _ _ cap g1 g2 g3 g4 g5 g6 =>
        rename_i b base arr T fr
        obtain ⟨_, _, arr0, T0, fr0, r1, r2, r3, r4, r5⟩ := hh.blk id blk hb
        rw [g2] at r1 r2 r4 r5
        simp only at r1 r2 r4 r5
        refine row r1 (by omega) hlen (fun j hj => ?_) hl
        have := r5 (off + j) (by omega)
        rw [← Nat.add_assoc] at this
        have e : blk.cells[off + j]'(by omega) = .p ps[j] := by
          have h1 : ((blk.cells.drop off).take len)[j]? = some (.p ps[j]) := by rw [hcells]; simp [hj]
          have h2 : ((blk.cells.drop off).take len)[j]? = some (blk.cells[off + j]'(by omega)) := by
            rw [List.getElem?_take, if_pos (by omega), List.getElem?_drop, List.getElem?_eq_getElem (by omega)]
          rw [h2] at h1
          injection h1
        rw [e] at this
        exact this.p_inv
      · cases he
    · cases he
  · cases he

end

section
variable {P : Program} {C : Ctx} {s : St} {φ : Id → Nat × Nat} {a : Act} {w : World}

theorem copy_run {t0 t1 ty : TypeId} {d : Option Tmp} {c0 c1 : Value} {x0 x1 : E} {s' : St} (h : SimAt C s φ a w) (h0 : RepE s.cnt φ (Ok C s.heap φ) w c0 x0) (h1 : RepE s.cnt φ (Ok C s.heap φ) w c1 x1)
    (he : copyE P t0 t1 d s x0 x1 = some s') : Steps1 P C a w (Builtin.copy_ #[t0, t1] ty #[c0, c1]) d s' := by
  unfold copyE at he
  split at he
  · cases he
  rename_i el hel
  split at he
  rotate_left
  · cases he
  rename_i n id sz off len hn
  split at he
  rotate_left
  · cases he
  rename_i es blk hes hb
  split at he
  rotate_left
  · cases he
  rename_i hc
  obtain ⟨hn0, rfl, hex, hv⟩ := hc
  injection he with he; subst he
  have hu := tElem_spec hel
  obtain ⟨m, q1, q2, q3, q5⟩ := src_run (P := P) h.heap hn0 h1 hes
  have hmn : es.length / sz = m := by rw [q2, Nat.mul_div_cancel _ hn0]
  rw [hmn]
  generalize hk : min m len = k
  have hkm : k ≤ m := by omega
  have hkl : k ≤ len := by omega
  obtain ⟨vs, v1, v2, v3⟩ := q5 k hkm
  have hkle : k * sz ≤ m * sz := Nat.mul_le_mul_right _ hkm
  have hkle2 : k * sz ≤ len * sz := Nat.mul_le_mul_right _ hkl
  have htl : (es.take (k * sz)).length = k * sz := by simp; omega
  cases h0 with
  | sl _ _ cap g1 g2 g3 g4 g5 g6 =>
  rename_i b base arr0 T0 fr0
  obtain ⟨p1, p2, arr, T, fr, r1, r2, r3, r4, r5⟩ := h.heap.blk id blk hb
  have r1' := r1
  rw [g2] at r1 r2 r4 r5
  simp only at r1 r2 r4 r5
  rw [g5] at r1
  injection r1 with r1; injection r1 with e1 e2 e3; subst e1; subst e2; subst e3
  have hone : ∀ u ∈ vs, u.oneCell' = true := by
    intro u hu
    obtain ⟨j, hj, rfl⟩ := List.mem_iff_getElem.1 hu
    have := (v3 j (by omega) (by omega)).1
    simpa [List.getD, hj] using this
  obtain ⟨w', arr', hr, hW⟩ := run_storeCells_ex (P := P) (off := base + off) vs 0 arr0 w g5 (by omega) r3 hone
  refine ⟨.int .i64 k, w', φ, ?_, (h.store hb hex (off := off) (es := es.take (k * sz)) (by omega) (vs := vs) (by omega) (fun j hj => (v3 j (by omega) (by omega)).1)
    (fun j hj => by have := (v3 j (by omega) (by omega)).2; simpa using this) r1' (arr' := arr') (by rw [g2]; simpa using hW)).set (.p (.int _ _))⟩
  have v1' := v1 w rfl
  have hsize : (sizeOf el).run P w = .ok sz w := sizeOf_run hn
  have hkk : Nat.min m len = k := hk
  simp only [Builtin.copy_, List.getElem?_toArray, List.getElem?_cons_zero, List.getElem?_cons_succ, Sem.run_bind, underlying_run hu, q1, Result.andThen_ok, hsize, hkk, v1', Sem.run_pure, goInt]
  have hr' : (storeCells ⟨b, base + off, none⟩ vs.toArray.toList).run P w = .ok () w' := by simpa using hr
  simp only [hr', Result.andThen_ok]

end
end Go.Vm
