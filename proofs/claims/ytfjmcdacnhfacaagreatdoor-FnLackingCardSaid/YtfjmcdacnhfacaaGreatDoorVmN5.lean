/- Ghost steps: blocks get other names, slots are forgotten; a slice is told as a plain list. No condition. -/
import Derived.Test.YtfjmcdacnhfacaaGreatDoorVmN4
set_option linter.all false
namespace Go.Vm
open Go

mutual
def renE (ρ : Id → Option Id) : E → E
  | .ptr id off => match ρ id with
    | some id' => .ptr id' off
    | none => .dead
  | .sl id sz off len => match ρ id with
    | some id' => .sl id' sz off len
    | none => .dead
  | .agg cs => .agg (renEs ρ cs)
  | .tup cs => .tup (renEs ρ cs)
  | .fn f cs => .fn f (renEs ρ cs)
  | .p x => .p x
  | .nil => .nil
  | .pp cs => .pp cs
  | .dead => .dead
def renEs (ρ : Id → Option Id) : List E → List E
  | [] => []
  | e :: r => renE ρ e :: renEs ρ r
end

theorem renEs_eq (ρ : Id → Option Id) : ∀ es, renEs ρ es = es.map (renE ρ)
  | [] => rfl
  | e :: r => by simp [renEs, renEs_eq ρ r]

theorem renEs_p (ρ : Id → Option Id) (ps : List P) : renEs ρ (ps.map .p) = ps.map .p := by
  rw [renEs_eq]; induction ps with
  | nil => rfl
  | cons a r ih => simp [renE, ih]

theorem RepE.ren {cnt cnt' : Nat → Nat} {φ φ' : Id → Nat × Nat} {A A' : Nat → Nat → Prop} {w : World} {ρ : Id → Option Id} (hρ : ∀ id id', ρ id = some id' → id'.2 < cnt' id'.1 ∧ φ' id' = φ id) (hk : ∀ b i, A b i → A' b i)
    {c : Value} {e : E} (h : RepE cnt φ A w c e) : RepE cnt' φ' A' w c (renE ρ e) := by
  induction h with
  | p h => exact .p (h.mono (Keeps.refl hk))
  | nil => exact .nil
  | ptr off h1 h2 =>
    rename_i id b base
    simp only [renE]
    split
    · rename_i id' hi
      obtain ⟨g1, g2⟩ := hρ _ _ hi
      exact .ptr off g1 (g2.trans h2)
    · exact .dead _
  | pp hb hfit hA ho hcs =>
    exact .pp hb hfit (fun j hj => hk _ _ (hA j hj)) ho fun j hj => (hcs j hj).mono (Keeps.refl hk)
  | sl off len cap h1 h2 h3 h4 h5 h6 =>
    simp only [renE]
    split
    · rename_i id' hi
      obtain ⟨g1, g2⟩ := hρ _ _ hi
      exact .sl off len cap g1 (g2.trans h2) h3 h4 h5 h6
    · exact .dead _
  | agg hs ho _ ih =>
    simp only [renE, renEs_eq]
    exact .agg (by simpa using hs) (fun j hj => ho j (by simpa using hj)) fun j hj => by simpa using ih j (by simpa using hj)
  | tup hs _ ih =>
    simp only [renE, renEs_eq]
    exact .tup (by simpa using hs) fun j hj => by simpa using ih j (by simpa using hj)
  | fn hs _ ih =>
    simp only [renE, renEs_eq]
    exact .fn (by simpa using hs) fun j hj => by simpa using ih j (by simpa using hj)
  | dead c => exact .dead c

section
variable {k0 : Nat → Nat} {s s' : St}

open Classical in
theorem Goes.ren (ρ : Id → Option Id) (hcnt : ∀ d, k0 d ≤ s'.cnt d) (hρ : ∀ id id', ρ id = some id' → id'.2 < s'.cnt id'.1)
    (hinj : ∀ id1 id2 id', ρ id1 = some id' → ρ id2 = some id' → id1 = id2) (hlow : ∀ id id', ρ id = some id' → id'.2 < k0 id'.1 → id' = id)
    (henv : ∀ t, s'.env t = renE ρ (s.env t) ∨ s'.env t = .dead)
    (hheap : ∀ id' b', s'.heap id' = some b' → ∃ id b, ρ id = some id' ∧ s.heap id = some b ∧ b'.cells = renEs ρ b.cells ∧ (b'.excl = true → b.excl = true)) : Goes k0 s s' := by
  rintro C a w rfl ⟨φ, h⟩
  let φ' : Id → Nat × Nat := fun id' => if hx : ∃ id, ρ id = some id' then φ (Classical.choose hx) else φ id'
  have hφ : ∀ id id', ρ id = some id' → φ' id' = φ id := by
    intro id id' hi
    have hx : ∃ id, ρ id = some id' := ⟨id, hi⟩
    simp only [φ', dif_pos hx]
    rw [hinj _ _ _ (Classical.choose_spec hx) hi]
  have hU : ∀ b i, U s'.heap φ' b i → U s.heap φ b i := by
    rintro b i ⟨id', b', g1, g2, g3⟩
    obtain ⟨id, b0, e1, e2, e3, e4⟩ := hheap _ _ g1
    rw [hφ _ _ e1] at g2 g3
    refine ⟨id, b0, e2, g2, g3.imp e4 fun g => ?_⟩
    rw [e3, renEs_eq, List.length_map] at g; exact g
  have hk : ∀ b i, Ok C s.heap φ b i → Ok C s'.heap φ' b i := by
    rintro b i (⟨q1, q2⟩ | ⟨q1, q2⟩)
    · exact .inl ⟨q1, fun hu => q2 (hU b i hu)⟩
    · exact .inr ⟨q1, q2⟩
  have hr : ∀ {c e}, RepE s.cnt φ (Ok C s.heap φ) w c e → RepE s'.cnt φ' (Ok C s'.heap φ') w c (renE ρ e) := fun hc =>
    hc.ren (fun id id' hi => ⟨hρ id id' hi, hφ id id' hi⟩) hk
  refine ⟨φ', ⟨⟨fun id' b' hb => ?_, fun id1 id2 b1 b2 g1 g2 he => ?_⟩, fun t ht => ?_, h.low, h.grew, h.lentLow, h.rows, hcnt, fun id' hid => ?_, h.defers, h.out⟩⟩
  · obtain ⟨id, b0, e1, e2, e3, e4⟩ := hheap _ _ hb
    obtain ⟨p1, p2, arr, T, fr, r1, r2, r3, r4, r5⟩ := h.heap.blk id b0 e2
    refine ⟨hρ _ _ e1, by rw [hφ _ _ e1]; exact p2, arr, T, fr, by rw [hφ _ _ e1]; exact r1, ?_, r3, ?_, ?_⟩
    · rw [hφ _ _ e1, e3, renEs_eq, List.length_map]; exact r2
    · intro j hj; rw [hφ _ _ e1]; exact r4 j (by rw [e3, renEs_eq, List.length_map] at hj; exact hj)
    · intro j hj
      have hj' : j < b0.cells.length := by rw [e3, renEs_eq, List.length_map] at hj; exact hj
      have := hr (r5 j hj')
      rw [hφ _ _ e1]
      simpa [e3, renEs_eq] using this
  · obtain ⟨i1, c1, e1, e2, _⟩ := hheap _ _ g1
    obtain ⟨i2, c2, f1, f2, _⟩ := hheap _ _ g2
    rw [hφ _ _ e1, hφ _ _ f1] at he
    have := h.heap.inj _ _ _ _ e2 f2 he
    subst this
    rw [e1] at f1; injection f1
  · rcases henv t with he | he
    · rw [he]; exact hr (h.slots t ht)
    · rw [he]; exact .dead _
  · by_cases hx : ∃ id, ρ id = some id'
    · obtain ⟨id, hi⟩ := hx
      rw [hφ _ _ hi]
      have := hlow _ _ hi hid
      subst this
      exact h.phi _ hid
    · simp only [φ', dif_neg hx]
      exact h.phi _ hid

/-! ### states told by finite lists -/
def lookE : List (Nat × E) → Nat → E
  | [], _ => .dead
  | (t, e) :: l, t' => if t' = t then e else lookE l t'
def lookH : List (Id × Blk) → Heap
  | [], _ => none
  | (i, b) :: l, i' => if i' = i then some b else lookH l i'
def lookC : List (Nat × Nat) → Nat → Nat
  | [], _ => 0
  | (t, e) :: l, t' => if t' = t then e else lookC l t'
def lookR : List (Id × Id) → Id → Option Id
  | [], _ => none
  | (i, b) :: l, i' => if i' = i then some b else lookR l i'
def mkS (es : List (Nat × E)) (hs : List (Id × Blk)) (cs : List (Nat × Nat)) : St := ⟨lookE es, lookH hs, lookC cs⟩

def AllE (ρ : Id → Option Id) (s : St) : List (Nat × E) → Prop
  | [] => True
  | (t, e) :: l => renE ρ (s.env t) = e ∧ AllE ρ s l
def AllH (ρ : Id → Option Id) (s : St) : List (Id × Blk) → Prop
  | [] => True
  | (id', b') :: l => (∃ id b, ρ id = some id' ∧ s.heap id = some b ∧ renEs ρ b.cells = b'.cells ∧ (b'.excl = true → b.excl = true)) ∧ AllH ρ s l

theorem AllE.look {ρ : Id → Option Id} : ∀ {es : List (Nat × E)}, AllE ρ s es → ∀ t, lookE es t = renE ρ (s.env t) ∨ lookE es t = .dead
  | [], _, t => .inr rfl
  | (t', e) :: l, h, t => by
    simp only [lookE]
    split
    · rename_i ht; subst ht; exact .inl h.1.symm
    · exact AllE.look h.2 t
theorem AllH.look {ρ : Id → Option Id} : ∀ {hs : List (Id × Blk)}, AllH ρ s hs → ∀ id' b', lookH hs id' = some b' → ∃ id b, ρ id = some id' ∧ s.heap id = some b ∧ b'.cells = renEs ρ b.cells ∧ (b'.excl = true → b.excl = true)
  | [], _, id', b', hb => by simp [lookH] at hb
  | (i, b) :: l, h, id', b', hb => by
    simp only [lookH] at hb
    split at hb
    · rename_i hi; subst hi; injection hb with hb; subst hb
      obtain ⟨id, b0, h1, h2, h3, h4⟩ := h.1
      exact ⟨id, b0, h1, h2, h3.symm, h4⟩
    · exact AllH.look h.2 id' b' hb

/-- The renaming is one to one, into names that have been given, and leaves the caller's. -/
def renOk (ks cs : List (Nat × Nat)) (r : List (Id × Id)) : Bool :=
  (ks.all fun x => decide (lookC ks x.1 ≤ lookC cs x.1)) &&
  r.all fun x => (decide (x.2.2 < lookC cs x.2.1) && (decide (lookC ks x.2.1 ≤ x.2.2) || decide (x.2 = x.1))) && r.all fun y => decide (x.2 = y.2 → x.1 = y.1)

theorem lookR_mem : ∀ {r : List (Id × Id)} {i i' : Id}, lookR r i = some i' → (i, i') ∈ r
  | [], i, i', h => by simp [lookR] at h
  | (j, b) :: l, i, i', h => by
    simp only [lookR] at h
    split at h
    · rename_i hj; subst hj; injection h with h; subst h; exact List.mem_cons_self ..
    · exact List.mem_cons_of_mem _ (lookR_mem h)

theorem lookC_zero : ∀ {ks : List (Nat × Nat)} {d : Nat}, (∀ x ∈ ks, x.1 ≠ d) → lookC ks d = 0
  | [], d, _ => rfl
  | (t, e) :: l, d, h => by
    simp only [lookC]
    rw [if_neg (fun hd => h (t, e) (List.mem_cons_self ..) hd.symm)]
    exact lookC_zero fun x hx => h x (List.mem_cons_of_mem _ hx)

theorem Goes.canon {ks : List (Nat × Nat)} (r : List (Id × Id)) {es : List (Nat × E)} {hs : List (Id × Blk)} {cs : List (Nat × Nat)} (hr : renOk ks cs r = true)
    (he : AllE (lookR r) s es) (hh : AllH (lookR r) s hs) : Goes (lookC ks) s (mkS es hs cs) := by
  unfold renOk at hr
  simp only [Bool.and_eq_true, List.all_eq_true, decide_eq_true_eq] at hr
  obtain ⟨h1, h2⟩ := hr
  refine Goes.ren (lookR r) (fun d => ?_) (fun id id' hi => (h2 _ (lookR_mem hi)).1.1) (fun i1 i2 i' g1 g2 => (h2 _ (lookR_mem g1)).2 _ (lookR_mem g2) rfl) (fun id id' hi hid => ?_) (fun t => he.look t) fun id' b' hb => hh.look id' b' hb
  · by_cases hx : ∃ x ∈ ks, x.1 = d
    · obtain ⟨x, hx, rfl⟩ := hx; exact h1 x hx
    · rw [lookC_zero (fun x hx' he => hx ⟨x, hx', he⟩)]; exact Nat.zero_le _
  · have := (h2 _ (lookR_mem hi)).1.2
    simp only [Bool.or_eq_true, decide_eq_true_eq] at this
    rcases this with g | g
    · have g' : lookC ks id'.1 ≤ id'.2 := g
      omega
    · exact g

/-! ### plain lists out of slices -/
theorem Goes.share {id : Id} {cs : List E} (hb : s.heap id = some ⟨true, cs⟩) : Goes k0 s { s with heap := updI s.heap id (some ⟨false, cs⟩) } := by
  rintro C a w _ ⟨φ, h⟩
  refine ⟨φ, h.weaken fun i b hi => ?_⟩
  simp only [updI] at hi
  split at hi
  · rename_i he; subst he; injection hi with hi; subst hi
    exact ⟨_, hb, rfl, fun _ => rfl⟩
  · exact ⟨b, hi, rfl, fun q => q⟩

theorem Goes.conv {t : Nat} {r : E} (hc : Conv s.heap (fun id => ∃ b, s.heap id = some b ∧ b.excl = false) (s.env t) r) : Goes k0 s (s.set (some t) r) := by
  rintro C a w _ ⟨φ, h⟩
  refine ⟨φ, ⟨h.heap, fun t' ht => ?_, h.low, h.grew, h.lentLow, h.rows, h.cntLe, h.phi, h.defers, h.out⟩⟩
  show RepE s.cnt φ (Ok C s.heap φ) w (at_ a.tmps t') (upd s.env t r t')
  have hsl := h.slots t' ht
  generalize at_ a.tmps t' = cv at hsl
  unfold upd
  split
  · rename_i he; subst he
    refine hc.rep h.heap (fun _ _ q => q) (fun id blk hok hb j hj => ?_) hsl
    obtain ⟨b, hb2, hex⟩ := hok
    rw [hb] at hb2; injection hb2 with hb2; subst hb2
    refine .inl ⟨(h.heap.blk id blk hb).own, ?_⟩
    rintro ⟨id', blk', q1, q2, q3⟩
    have := h.heap.inj id' id blk' blk q1 hb q2
    subst this
    rw [hb] at q1; injection q1 with q1; subst q1
    rcases q3 with q3 | q3
    · rw [hex] at q3; cases q3
    · omega
  · exact hsl

/-- A slot that holds a slice of plain cells gets the plain list; its block is shared from here on. -/
theorem Goes.freeze {t : Nat} {id : Id} {ex : Bool} {sz len : Nat} {ps rest : List P} (ht : s.env t = .sl id sz 0 len) (hb : s.heap id = some ⟨ex, (ps ++ rest).map .p⟩) (hsz : 0 < sz) (hl : ps.length = len * sz) :
    Goes k0 s (St.set { s with heap := updI s.heap id (some ⟨false, (ps ++ rest).map .p⟩) } (some t) (.p (.list sz ps))) := by
  have h1 : Goes k0 s { s with heap := updI s.heap id (some ⟨false, (ps ++ rest).map .p⟩) } := by
    cases ex with
    | true => exact Goes.share hb
    | false =>
      have : updI s.heap id (some ⟨false, (ps ++ rest).map .p⟩) = s.heap := by
        funext i; unfold updI; split
        · rename_i he; rw [he, hb]
        · rfl
      rw [this]; exact Goes.refl
  refine h1.trans (Goes.conv ?_)
  have hb' : updI s.heap id (some (Blk.mk false ((ps ++ rest).map .p))) id = some ⟨false, (ps ++ rest).map .p⟩ := by simp [updI]
  simp only [ht]
  refine Conv.sl hb' ⟨_, hb', rfl⟩ hsz (by simp; omega) hl fun j h1 h2 => ?_
  have : (List.map E.p (ps ++ rest))[0 + j]'(by simpa using h2) = .p ps[j] := by simp [List.getElem_append, h1]
  simp only [this]
  exact .refl _

end

/-! ### specifications out of the names' beginning -/
theorem Spec.of_zero {P : Program} {f : FuncId} {args : List E} {Q : Heap → E → Prop} (hargs : noRefs args = true) (hQ : ∀ h1 r, Q h1 r → h1 = noHeap ∧ r.noRef = true) (h : SpecAt P f noHeap args (fun h1 _ r => Q h1 r) (lookC [])) : Spec P f noHeap args Q := by
  intro cnt w A φ cs hh hex hsz hrep
  have hU : ∀ ψ b i, ¬ U noHeap ψ b i := by rintro ψ b i ⟨id, blk, hb, _⟩; simp [noHeap] at hb
  have hk : ∀ c1 c2 w', Keeps (Ok (ctxOf w A noHeap φ c1) noHeap φ) w' (Ok (ctxOf w A noHeap φ c2) noHeap φ) w' := fun c1 c2 w' => Keeps.refl fun b i hi => hi
  refine (h w A φ cs ⟨fun id blk hb => by simp [noHeap] at hb, fun id id' b b' hb => by simp [noHeap] at hb⟩ hex hsz fun j hj => (hrep j hj).rename (hk _ _ _) (noRefs_get hargs j hj)).mono ?_
  rintro e w' ⟨v, cnt', φ', h1, r, rfl, hq, c1, c2, c3, c4, c5, c6, c7, c8, c9⟩
  obtain ⟨rfl, hr⟩ := hQ _ _ hq
  refine ⟨v, cnt, φ, noHeap, r, rfl, hq, fun _ => Nat.le_refl _, fun _ _ => rfl, ⟨fun id blk hb => by simp [noHeap] at hb, fun id id' b b' hb => by simp [noHeap] at hb⟩, ?_, c5, c6, c7, fun id blk hb => by simp [noHeap] at hb, c9⟩
  refine c4.rename (Keeps.refl fun b i hi => ?_) hr
  rcases hi with ⟨q1, q2⟩ | ⟨q1, q2⟩
  · exact .inl ⟨q1, hU _ _ _⟩
  · exact .inr ⟨q1, q2⟩

end Go.Vm
