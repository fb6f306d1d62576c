/- A region that draws the order of its operations, over abstract states. No condition. -/
import Derived.Test.YtfjmcdacnhfacaaGreatDoorVmN2
set_option linter.all false
namespace Go.Vm
open Go

section
variable {P : Program} {ops : Array Oper} {n : Nat}

/-- Steps one behind the other. -/
inductive Chain (P : Program) (ops : Array Oper) (ks : Nat → Kd) : List Nat → St → St → Prop
  | nil {s : St} : Chain P ops ks [] s s
  | cons {i : Nat} {o : Oper} {is : List Nat} {s s1 s2 : St} : ops[i]? = some o → StepK P ops (ks i) o s s1 → Chain P ops ks is s1 s2 → Chain P ops ks (i :: is) s s2

def swappable (ops : Array Oper) (ks : Nat → Kd) (j i : Nat) : Bool :=
  match ops[j]?, ops[i]? with
  | some oj, some oi => oj.apart ops oi && mayPass (ks j) (ks i)
  | _, _ => false

theorem Chain.pull {ks : Nat → Kd} {i : Nat} {post : List Nat} : ∀ {pre : List Nat} {s s2 : St}, Chain P ops ks (pre ++ i :: post) s s2 → HB s → (∀ j ∈ pre, swappable ops ks j i = true) →
    ∃ o s1, ops[i]? = some o ∧ StepK P ops (ks i) o s s1 ∧ Chain P ops ks (pre ++ post) s1 s2
  | [], s, s2, h, _, _ => by
    cases h with
    | cons h1 h2 h3 => exact ⟨_, _, h1, h2, h3⟩
  | j :: pre, s, s2, h, hB, hs => by
    cases h with
    | cons h1 h2 h3 =>
    rename_i oj s1
    obtain ⟨oi, s1', g1, g2, g3⟩ := Chain.pull h3 (h2.hb hB) fun k hk => hs k (List.mem_cons_of_mem _ hk)
    have hsw := hs j (List.mem_cons_self ..)
    unfold swappable at hsw
    simp only [h1, g1, Bool.and_eq_true] at hsw
    obtain ⟨s3, q1, q2⟩ := swap h2 g2 hsw.1 hsw.2 hB
    exact ⟨oi, s3, g1, q1, .cons h1 q2 g3⟩

/-- ms: of each operation, those that must come ahead of it (a mask). -/
def befOk (ops : Array Oper) (ms : List Nat) : Bool :=
  (List.range ops.size).all fun i => match ops[i]? with
    | none => true
    | some o => (o.after.all fun e => !Region.binds .any e || decide (e.on < i)) &&
      (List.range ops.size).all fun j => !(ms.getD i 0).testBit j || o.after.any fun e => Region.binds .any e && (e.on == j || (ms.getD e.on 0).testBit j)

def pairsOk (ops : Array Oper) (ks : Nat → Kd) (ms : List Nat) : Bool :=
  (List.range ops.size).all fun i => (List.range i).all fun j => (ms.getD i 0).testBit j || swappable ops ks j i

def drawOk (n : Nat) (ops : Array Oper) (ks : Nat → Kd) (ms : List Nat) : Bool :=
  befOk ops ms && pairsOk ops ks ms && ops.all (opIn n ops)

def Closed (ops : Array Oper) (listed : Array Bool) : Prop :=
  ∀ (i : Nat) (o : Oper), ops[i]? = some o → listed.getD i false = true → ∀ e ∈ o.after, Region.binds .any e = true → listed.getD e.on false = true

theorem befOk_spec {ms : List Nat} (h : befOk ops ms = true) {listed : Array Bool} (hc : Closed ops listed) : ∀ (i : Nat) (o : Oper), ops[i]? = some o →
    (∀ e ∈ o.after, Region.binds .any e = true → listed.getD e.on false = true) → ∀ j, j < ops.size → (ms.getD i 0).testBit j = true → listed.getD j false = true := by
  intro i
  induction i using Nat.strongRecOn with
  | _ i ih =>
    intro o ho hr j hj hb
    have hlt : i < ops.size := (Array.getElem?_eq_some_iff.1 ho).1
    have h1 := List.all_eq_true.1 h i (List.mem_range.2 hlt)
    simp only [ho, Bool.and_eq_true] at h1
    have h2 := List.all_eq_true.1 h1.2 j (List.mem_range.2 hj)
    simp only [hb, Bool.not_true, Bool.false_or] at h2
    obtain ⟨e, he, h3⟩ := Array.any_eq_true'.1 h2
    simp only [Bool.and_eq_true, Bool.or_eq_true, beq_iff_eq] at h3
    have hon := hr e he h3.1
    rcases h3.2 with h4 | h4
    · rw [← h4]; exact hon
    · have hdown : e.on < i := by
        have := Array.all_eq_true_iff_forall_mem.1 h1.1 e he
        simpa [h3.1] using this
      have hlt2 : e.on < ops.size := by omega
      exact ih e.on hdown _ (Array.getElem?_eq_some_iff.2 ⟨hlt2, rfl⟩) (hc _ _ (Array.getElem?_eq_some_iff.2 ⟨hlt2, rfl⟩) hon) j hj h4

variable {C : Ctx} {Q : Exit → Act → World → Prop}

theorem chain_any {ks : Nat → Kd} {ms : List Nat} {s' : St} (hd : drawOk n ops ks ms = true) (hQ : ∀ a w, a.tmps.size = n → Sim C s' a w → Q .normal a w) :
    ∀ (fuel : Nat) (rest : List Nat) (listed : Array Bool) (s : St) (a : Act) (w : World), rest.length ≤ fuel → rest.Pairwise (· < ·) → listed.size = ops.size →
      (∀ i, i ∈ rest ↔ i < ops.size ∧ listed.getD i false = false) → Closed ops listed → Chain P ops ks rest s s' → a.tmps.size = n → Sim C s a w → wpAny P .any ops Q fuel listed a w := by
  have hd' := hd
  unfold drawOk at hd'
  simp only [Bool.and_eq_true] at hd'
  obtain ⟨⟨hbef, hpairs⟩, hin⟩ := hd'
  have getD_iff : ∀ (listed : Array Bool) i, listed.size = ops.size → i < ops.size → (listed.getD i true = listed.getD i false) := fun listed i h1 h2 => by
    simp [Array.getD, show i < listed.size by omega]
  have ready_mem : ∀ (rest : List Nat) (listed : Array Bool), listed.size = ops.size → (∀ i, i ∈ rest ↔ i < ops.size ∧ listed.getD i false = false) → ∀ i ∈ Region.ready .any ops listed, i ∈ rest := by
    intro rest listed hsz hr i hi
    obtain ⟨h1, o, ho, _⟩ := mem_ready.1 hi
    have hlt : i < ops.size := (Array.getElem?_eq_some_iff.1 ho).1
    exact (hr i).2 ⟨hlt, by rw [← getD_iff listed i hsz hlt]; exact h1⟩
  have done : ∀ (rest : List Nat) (listed : Array Bool), rest.Pairwise (· < ·) → listed.size = ops.size → (∀ i, i ∈ rest ↔ i < ops.size ∧ listed.getD i false = false) → Region.ready .any ops listed = [] → rest = [] := by
    intro rest listed hp hsz hr hnil
    cases rest with
    | nil => rfl
    | cons i r =>
      exfalso
      obtain ⟨hlt, hun⟩ := (hr i).1 (List.mem_cons_self ..)
      have : i ∈ Region.ready .any ops listed := by
        refine mem_ready.2 ⟨by rw [getD_iff listed i hsz hlt]; exact hun, ops[i], Array.getElem?_eq_some_iff.2 ⟨hlt, rfl⟩, fun e he hb => ?_⟩
        have h1 := List.all_eq_true.1 hbef i (List.mem_range.2 hlt)
        simp only [Array.getElem?_eq_getElem hlt, Bool.and_eq_true] at h1
        have h2 := Array.all_eq_true_iff_forall_mem.1 h1.1 e he
        simp only [hb, Bool.not_true, Bool.false_or, decide_eq_true_eq] at h2
        cases hg : listed.getD e.on false with
        | true => rfl
        | false =>
          have := (hr e.on).2 ⟨by omega, hg⟩
          rcases List.mem_cons.1 this with h3 | h3
          · omega
          · have := (List.pairwise_cons.1 hp).1 _ h3; omega
      rw [hnil] at this; cases this
  intro fuel
  induction fuel with
  | zero =>
    intro rest listed s a w hl hp hsz hr hc hch ha hs
    have : rest = [] := List.eq_nil_of_length_eq_zero (by omega)
    subst this
    cases hch
    refine ⟨?_, hQ a w ha hs⟩
    cases hre : Region.ready .any ops listed with
    | nil => rfl
    | cons i r => have := ready_mem [] listed hsz hr i (by rw [hre]; exact List.mem_cons_self ..); cases this
  | succ fuel ih =>
    intro rest listed s a w hl hp hsz hr hc hch ha hs
    refine ⟨fun hnil => ?_, fun i hi => ?_⟩
    · have := done rest listed hp hsz hr hnil
      subst this
      cases hch
      exact hQ a w ha hs
    · have hmem := ready_mem rest listed hsz hr i hi
      obtain ⟨h1, o, ho, hall⟩ := mem_ready.1 hi
      have hlt : i < ops.size := (Array.getElem?_eq_some_iff.1 ho).1
      obtain ⟨pre, post, rfl⟩ := List.append_of_mem hmem
      have hp' := hp
      rw [List.pairwise_append] at hp'
      obtain ⟨p1, p2, p3⟩ := hp'
      have hB : HB s := by
        obtain ⟨φ, hs⟩ := hs
        exact fun id b hb => (hs.heap.blk id b hb).below
      obtain ⟨oi, s1, g1, g2, g3⟩ := hch.pull hB fun j hj => by
        have hji : j < i := p3 j hj i (List.mem_cons_self ..)
        have h2 := List.all_eq_true.1 (List.all_eq_true.1 hpairs i (List.mem_range.2 hlt)) j (List.mem_range.2 hji)
        rcases Bool.or_eq_true_iff.1 h2 with h3 | h3
        · exfalso
          have := befOk_spec hbef hc i o ho hall j (by omega) h3
          have := ((hr j).1 (List.mem_append_left _ hj)).2
          simp_all
        · exact h3
      obtain ⟨φ, hs⟩ := hs
      refine g2.sound (n := n) g1 (by
        have := Array.all_eq_true_iff_forall_mem.1 hin oi (Array.mem_of_getElem? g1)
        exact this) ha hs fun a' w' ha' hs' => ?_
      refine ih (pre ++ post) _ s1 a' w' ?_ ?_ ?_ ?_ ?_ g3 ha' hs'
      · simp at hl ⊢; omega
      · rw [List.pairwise_append]
        exact ⟨p1, (List.pairwise_cons.1 p2).2, fun x hx y hy => p3 x hx y (List.mem_cons_of_mem _ hy)⟩
      · simpa using hsz
      · intro k
        have hnot : i ∉ pre ++ post := by
          intro hm
          rcases List.mem_append.1 hm with hm | hm
          · exact absurd (p3 i hm i (List.mem_cons_self ..)) (by omega)
          · exact absurd ((List.pairwise_cons.1 p2).1 i hm) (by omega)
        by_cases hki : k = i
        · subst hki
          constructor
          · intro hm; exact absurd hm hnot
          · rintro ⟨_, hf⟩
            simp [show k < listed.size by omega] at hf
        · rw [getD_set_ne false (Ne.symm hki), ← hr k]
          simp [hki]
      · intro k ok hk hlk e he hb
        by_cases hki : k = i
        · subst hki
          rw [ho] at hk; injection hk with hk; subst hk
          exact getD_set_true (hall e he hb)
        · rw [getD_set_ne false (Ne.symm hki)] at hlk
          exact getD_set_true (hc k ok hk hlk e he hb)

theorem AWP.draw {K : Exit → St → Prop} {k0 : Nat → Nat} {id : Nat} {ks : Nat → Kd} {ms : List Nat} {s s' : St} (hm : P.follows .mixedOrders = true) (hd : drawOk n ops ks ms = true)
    (hch : Chain P ops ks (List.range ops.size) s s') (hK : K .normal s') : AWP P n k0 (.region id ops true) K s := by
  intro C a w _ ha hs
  refine wp_region_any hm (chain_any (C := C) (s' := s') hd (fun a' w' ha' hs' => ⟨s', hK, ha', hs'⟩) ops.size (List.range ops.size) _ s a _ (by simp) List.pairwise_lt_range (by simp) (fun i => ?_) (fun i o _ hl => ?_) hch ha ?_)
  · simp only [List.mem_range, Array.getD_eq_getD_getElem?, Array.getElem?_replicate]
    split <;> simp_all
  · exfalso
    simp only [Array.getD_eq_getD_getElem?, Array.getElem?_replicate] at hl
    split at hl <;> simp at hl
  · obtain ⟨φ, hs⟩ := hs
    have hk : Keeps (Ok C s.heap φ) w (Ok C s.heap φ) { w with drawn := w.drawn + 1 } := fun b arr T fr hb => ⟨arr, fr, hb, rfl, fun i hi => ⟨hi, rfl⟩⟩
    exact ⟨φ, hs.evolve (h' := s.heap) (cnt' := s.cnt) (φ' := φ) (fun _ => Nat.le_refl _) (fun _ _ => rfl) hk
      ⟨fun id b hb => (hs.heap.blk id b hb).mono (fun _ => Nat.le_refl _) (fun _ _ => rfl) hk fun arr T fr hr' => ⟨arr, fr, hr', rfl, fun _ _ q => q, fun _ _ => rfl⟩, hs.heap.inj⟩ (fun _ _ _ => rfl) (Nat.le_refl _) ⟨rfl, rfl⟩⟩

end
end Go.Vm
