/- A new block; cells that are written: what becomes of the state. No condition. -/
import Derived.Test.YtfjmcdacnhfacaaGreatDoorVmD3
set_option linter.all false
namespace Go.Vm
open Go

theorem getElem?_push_lt {α : Type} (xs : Array α) (x : α) {i : Nat} (h : i < xs.size) : (xs.push x)[i]? = xs[i]? := by
  rw [Array.getElem?_push]; rw [if_neg (by omega)]

theorem lt_of_row {w : World} {b : Nat} {o : Obj} (h : w.heap[b]? = some o) : b < w.heap.size := (Array.getElem?_eq_some_iff.1 h).1

section
variable {C : Ctx} {s : St} {φ : Id → Nat × Nat} {a : Act} {w w' : World}

theorem SimAt.blk_lt (h : SimAt C s φ a w) {id : Id} {b : Blk} (hb : s.heap id = some b) : (φ id).1 < w.heap.size := by
  obtain ⟨_, _, arr, T, fr, h1, _⟩ := h.heap.blk _ _ hb
  exact lt_of_row h1

/-- A block is made behind all others. -/
theorem SimAt.newBlk (h : SimAt C s φ a w) {arr : Array Value} {T : TypeId} {fr : Nat × Nat} (hw : w'.heap = w.heap.push (.cells arr T fr)) (hwo : SameOut w w') {cs : List E} (hsz : cs.length ≤ arr.size)
    (hfr : ∀ i, i < arr.size → ¬ (fr.1 ≤ i ∧ i < fr.2)) (ho : ∀ (j : Nat) (hj : j < cs.length), (at_ arr j).oneCell' = true)
    (hc : ∀ (j : Nat) (hj : j < cs.length), RepE s.cnt φ (Ok C s.heap φ) w (at_ arr j) cs[j]) (d : Nat) (ex : Bool) :
    SimAt C { s with heap := updI s.heap (d, s.cnt d) (some ⟨ex, cs⟩), cnt := upd s.cnt d (s.cnt d + 1) } (updI φ (d, s.cnt d) (w.heap.size, 0)) a w' := by
  have hsize : w'.heap.size = w.heap.size + 1 := by rw [hw]; simp
  have hold : ∀ b, b < w.heap.size → w'.heap[b]? = w.heap[b]? := fun b hb => by rw [hw]; exact getElem?_push_lt _ _ hb
  have hnew : w'.heap[w.heap.size]? = some (.cells arr T fr) := by rw [hw]; simp
  have hcnt : ∀ e, s.cnt e ≤ upd s.cnt d (s.cnt d + 1) e := fun e => by unfold upd; split <;> simp_all
  have hne : ∀ id : Id, id.2 < s.cnt id.1 → id ≠ (d, s.cnt d) := fun id hlt he => by subst he; exact Nat.lt_irrefl _ hlt
  have hφ : ∀ id : Id, id.2 < s.cnt id.1 → updI φ (d, s.cnt d) (w.heap.size, 0) id = φ id := fun id hlt => by simp [updI, hne id hlt]
  have hU : ∀ b i, b < w.heap.size → U (updI s.heap (d, s.cnt d) (some ⟨ex, cs⟩)) (updI φ (d, s.cnt d) (w.heap.size, 0)) b i → U s.heap φ b i := by
    rintro b i hb ⟨id, blk, h1, h2, h3⟩
    by_cases hid : id = (d, s.cnt d)
    · subst hid; simp [updI] at h2; omega
    · simp [updI, hid] at h1 h2 h3; exact ⟨id, blk, h1, h2, h3⟩
  have hk : Keeps (Ok C s.heap φ) w (Ok C (updI s.heap (d, s.cnt d) (some ⟨ex, cs⟩)) (updI φ (d, s.cnt d) (w.heap.size, 0))) w' := by
    intro b arr' T' fr' hb
    have hlt := lt_of_row hb
    refine ⟨arr', fr', by rw [hold b hlt]; exact hb, rfl, fun i hi => ⟨?_, rfl⟩⟩
    rcases hi with ⟨h1, h2⟩ | ⟨h1, h2⟩
    · exact .inl ⟨h1, fun hu => h2 (hU b i hlt hu)⟩
    · exact .inr ⟨h1, h2⟩
  refine h.evolve hcnt hφ hk ⟨?_, ?_⟩ (fun b hb _ => hold b (Nat.lt_of_lt_of_le hb h.grew)) (by omega) hwo
  · intro id blk hid
    by_cases he : id = (d, s.cnt d)
    · subst he
      simp [updI] at hid; subst hid
      refine ⟨by simp [upd], .inl (by simp [updI]; exact h.grew), arr, T, fr, by simpa [updI] using hnew, by simpa [updI] using hsz, hfr, fun j hj => by simpa [updI] using ho j hj, fun j hj => ?_⟩
      have := (hc j hj).mono hcnt hφ hk
      simpa [updI] using this
    · simp [updI, he] at hid
      have hlt := h.blk_lt hid
      exact (h.heap.blk id blk hid).mono hcnt hφ hk fun arr' T' fr' hb => ⟨arr', fr', by rw [hold _ hlt]; exact hb, rfl, fun _ _ h => h, fun _ _ => rfl⟩
  · intro id id' b b' h1 h2 he
    by_cases e1 : id = (d, s.cnt d) <;> by_cases e2 : id' = (d, s.cnt d)
    · rw [e1, e2]
    · simp [updI, e2] at h2
      have := h.blk_lt h2
      simp [updI, e1, e2] at he; omega
    · simp [updI, e1] at h1
      have := h.blk_lt h1
      simp [updI, e1, e2] at he; omega
    · simp [updI, e1] at h1; simp [updI, e2] at h2; simp [updI, e1, e2] at he
      exact h.heap.inj id id' b b' h1 h2 he

/-- What a row of stores makes of a world. -/
structure Wrote (w w' : World) (b : Nat) (arr arr' : Array Value) (T : TypeId) (fr : Nat × Nat) (o : Nat) (vs : List Value) : Prop where
  row : w'.heap[b]? = some (.cells arr' T fr)
  size : arr'.size = arr.size
  cell : ∀ i, at_ arr' i = if o ≤ i ∧ i < o + vs.length then vs.getD (i - o) undef else at_ arr i
  other : ∀ b', b' ≠ b → w'.heap[b']? = w.heap[b']?
  same : w'.heap.size = w.heap.size
  out : SameOut w w'

theorem run_storeCells_ex {P : Program} {b off : Nat} {T : TypeId} {fr : Nat × Nat} : ∀ (vs : List Value) (k : Nat) (arr : Array Value) (w : World), w.heap[b]? = some (.cells arr T fr) →
    off + k + vs.length ≤ arr.size → (∀ i, i < arr.size → ¬ (fr.1 ≤ i ∧ i < fr.2)) → (∀ v ∈ vs, v.oneCell' = true) →
    ∃ w' arr', (storeCells ⟨b, off, none⟩ vs k).run P w = .ok () w' ∧ Wrote w w' b arr arr' T fr (off + k) vs
  | [], k, arr, w, hb, hl, hf, h1 => ⟨w, arr, by simp [storeCells], hb, rfl, fun i => by simp; omega, fun _ _ => rfl, rfl, .refl⟩
  | v :: vs, k, arr, w, hb, hl, hf, h1 => by
    simp only [List.length_cons] at hl
    have hlt : off + k < arr.size := by omega
    have hcell := cell_of hb hlt
    have hfro : w.frozen? ⟨b, off + k, none⟩ = false := by
      have := hf _ hlt
      obtain ⟨lo, hi⟩ := fr
      simp only [World.frozen?, hb]
      simp only [Bool.and_eq_false_iff, decide_eq_false_iff_not]
      simp only at this
      omega
    have hst : (store ((⟨b, off, none⟩ : Addr).add k) v).run P w = .ok () (w.setCell ⟨b, off + k, none⟩ v) := by
      rw [add_plain, run_store P w _ v _ (h1 v (by simp)), hcell]
      simp [hfro]
    have hb1 : (w.setCell ⟨b, off + k, none⟩ v).heap[b]? = some (.cells (arr.setIfInBounds (off + k) v) T fr) := by
      simp [World.setCell, Array.getElem?_modify, hb]
    obtain ⟨w', arr', hr, hW⟩ := run_storeCells_ex (P := P) (off := off) vs (k + 1) (arr.setIfInBounds (off + k) v) _ hb1 (by simp; omega) (fun i hi => hf i (by simpa using hi)) (fun v hv => h1 v (by simp [hv]))
    refine ⟨w', arr', ?_, hW.row, by simpa using hW.size, fun i => ?_, fun b' hne => ?_, ?_, ⟨hW.out.1, hW.out.2⟩⟩
    · simp [storeCells, hst, hr]
    · rw [hW.cell i]
      by_cases e : i = off + k
      · subst e
        rw [if_neg (by omega), if_pos (by simp)]
        simp [at_, hlt]
      · have : at_ (arr.setIfInBounds (off + k) v) i = at_ arr i := by simp [at_, Array.getElem?_setIfInBounds_ne (Ne.symm e)]
        rw [this]
        by_cases hi : off + (k + 1) ≤ i ∧ i < off + (k + 1) + vs.length
        · rw [if_pos hi, if_pos (by simp; omega), show i - (off + k) = (i - (off + (k + 1))) + 1 by omega]
          simp
        · rw [if_neg hi, if_neg (by simp; omega)]
    · rw [hW.other b' hne]; simp [World.setCell, Array.getElem?_modify, Ne.symm hne]
    · rw [hW.same]; simp [World.setCell]

def setRange (cs : List E) (off : Nat) (es : List E) : List E := cs.take off ++ es ++ cs.drop (off + es.length)

theorem setRange_length {cs es : List E} {off : Nat} (h : off + es.length ≤ cs.length) : (setRange cs off es).length = cs.length := by
  simp [setRange]; omega

theorem setRange_get {cs es : List E} {off : Nat} (h : off + es.length ≤ cs.length) (j : Nat) (hj : j < cs.length) :
    (setRange cs off es)[j]'(by rw [setRange_length h]; exact hj) = if h2 : off ≤ j ∧ j < off + es.length then es[j - off] else cs[j] := by
  unfold setRange
  by_cases h1 : j < off
  · rw [dif_neg (by omega)]
    rw [List.getElem_append_left (by simp; omega), List.getElem_append_left (by simp; omega)]
    simp
  · by_cases h3 : j < off + es.length
    · rw [dif_pos ⟨by omega, h3⟩]
      rw [List.getElem_append_left (by simp; omega), List.getElem_append_right (by simp; omega)]
      congr 1; simp; omega
    · rw [dif_neg (by omega)]
      rw [List.getElem_append_right (by simp; omega)]
      simp only [List.getElem_drop]
      congr 1; simp; omega

/-- Cells of an own block are written. -/
theorem SimAt.store (h : SimAt C s φ a w) {id : Id} {blk : Blk} (hb : s.heap id = some blk) (hex : blk.excl = true) {off : Nat} {es : List E} (hle : off + es.length ≤ blk.cells.length)
    {vs : List Value} (hvs : vs.length = es.length) (h1 : ∀ (j : Nat) (hj : j < es.length), (vs.getD j undef).oneCell' = true)
    (hc : ∀ (j : Nat) (hj : j < es.length), RepE s.cnt φ (Ok C s.heap φ) w (vs.getD j undef) es[j])
    {arr arr' : Array Value} {T : TypeId} {fr : Nat × Nat} (hrow : w.heap[(φ id).1]? = some (.cells arr T fr)) (hW : Wrote w w' (φ id).1 arr arr' T fr ((φ id).2 + off) vs) :
    SimAt C { s with heap := updI s.heap id (some ⟨true, setRange blk.cells off es⟩) } φ a w' := by
  obtain ⟨hbel, hown, arr0, T0, fr0, r1, r2, r3, r4, r5⟩ := h.heap.blk id blk hb
  rw [hrow] at r1
  injection r1 with r1; injection r1 with r1 rT rf; subst r1; subst rT; subst rf
  have hUall : ∀ i, U s.heap φ (φ id).1 i := fun i => ⟨id, blk, hb, rfl, .inl hex⟩
  have hU : ∀ b i, U (updI s.heap id (some ⟨true, setRange blk.cells off es⟩)) φ b i → U s.heap φ b i := by
    rintro b i ⟨id', blk', g1, g2, g3⟩
    by_cases e : id' = id
    · subst e; subst g2; exact hUall i
    · simp [updI, e] at g1; exact ⟨id', blk', g1, g2, g3⟩
  have hnA : ∀ i, ¬ Ok C s.heap φ (φ id).1 i := fun i hi => by
    rcases hi with ⟨_, h2⟩ | ⟨h1, _⟩
    · exact h2 (hUall i)
    · exact h1 hown
  have hk : Keeps (Ok C s.heap φ) w (Ok C (updI s.heap id (some ⟨true, setRange blk.cells off es⟩)) φ) w' := by
    intro b arr1 T1 fr1 hb1
    by_cases e : b = (φ id).1
    · subst e
      rw [hrow] at hb1
      injection hb1 with hb1; injection hb1 with q1 q2 q3; subst q1; subst q2; subst q3
      exact ⟨arr', fr, hW.row, hW.size, fun i hi => absurd hi (hnA i)⟩
    · refine ⟨arr1, fr1, by rw [hW.other b e]; exact hb1, rfl, fun i hi => ⟨?_, rfl⟩⟩
      rcases hi with ⟨q1, q2⟩ | ⟨q1, q2⟩
      · exact .inl ⟨q1, fun hu => q2 (hU b i hu)⟩
      · exact .inr ⟨q1, q2⟩
  refine h.evolve (cnt' := s.cnt) (fun _ => Nat.le_refl _) (fun _ _ => rfl) hk ⟨?_, ?_⟩ (fun b hb hl => hW.other b fun e => ?_) (by rw [hW.same]; exact Nat.le_refl _) hW.out
  · intro id' blk' hid
    by_cases e : id' = id
    · subst e
      simp [updI] at hid; subst hid
      have hlen := setRange_length hle
      refine ⟨hbel, hown, arr', T, fr, hW.row, by simp only [hlen, hW.size]; exact r2, fun i hi => r3 i (by rw [← hW.size]; exact hi), fun j hj => ?_, fun j hj => ?_⟩
      · simp only [hlen] at hj
        rw [hW.cell]
        by_cases q : off ≤ j ∧ j < off + es.length
        · rw [if_pos (by omega), show (φ id').2 + j - ((φ id').2 + off) = j - off by omega]; exact h1 _ (by omega)
        · rw [if_neg (by omega)]; exact r4 j hj
      · simp only [hlen] at hj
        simp only [setRange_get hle j hj]
        rw [hW.cell]
        by_cases q : off ≤ j ∧ j < off + es.length
        · rw [if_pos (by omega), dif_pos q, show (φ id').2 + j - ((φ id').2 + off) = j - off by omega]
          exact (hc (j - off) (by omega)).mono (fun _ => Nat.le_refl _) (fun _ _ => rfl) hk
        · rw [if_neg (by omega), dif_neg q]
          exact (r5 j hj).mono (fun _ => Nat.le_refl _) (fun _ _ => rfl) hk
    · simp [updI, e] at hid
      have hne : (φ id').1 ≠ (φ id).1 := fun he => e (h.heap.inj id' id _ _ hid hb he)
      exact (h.heap.blk id' blk' hid).mono (fun _ => Nat.le_refl _) (fun _ _ => rfl) hk fun arr1 T1 fr1 hb1 =>
        ⟨arr1, fr1, by rw [hW.other _ hne]; exact hb1, rfl, fun _ _ q => q, fun _ _ => rfl⟩
  · intro id1 id2 b1 b2 g1 g2 he
    have lift : ∀ i q, updI s.heap id (some ⟨true, setRange blk.cells off es⟩) i = some q → ∃ q', s.heap i = some q' := by
      intro i q hq
      by_cases e : i = id
      · subst e; exact ⟨blk, hb⟩
      · simp [updI, e] at hq; exact ⟨q, hq⟩
    obtain ⟨q1, e1⟩ := lift _ _ g1
    obtain ⟨q2, e2⟩ := lift _ _ g2
    exact h.heap.inj id1 id2 q1 q2 e1 e2 he
  · subst e
    rcases hown with h0 | h0
    · omega
    · exact hl h0

end
end Go.Vm
