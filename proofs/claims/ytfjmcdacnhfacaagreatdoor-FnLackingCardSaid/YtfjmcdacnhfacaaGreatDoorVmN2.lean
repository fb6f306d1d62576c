/- Two operations that no edge orders may change places; a region that draws its order. No condition. -/
import Derived.Test.YtfjmcdacnhfacaaGreatDoorVmN
set_option linter.all false
namespace Go.Vm
open Go

/-- All blocks bear names that have been given. -/
def HB (s : St) : Prop := ∀ id b, s.heap id = some b → id.2 < s.cnt id.1

section
variable {P : Program} {ops : Array Oper}

theorem storeE_spec {t : TypeId} {s s1 : St} {x v : E} (h : storeE P t s x v = some s1) : s1.env = s.env ∧ s1.cnt = s.cnt ∧ (∀ id off, x = .ptr id off → ∀ i, i ≠ id → s1.heap i = s.heap i) ∧ (HB s → HB s1) := by
  unfold storeE at h
  split at h
  · rename_i id off es he
    split at h
    · rename_i blk hb
      split at h
      · injection h with h; subst h
        refine ⟨rfl, rfl, fun id' off' hx i hi => ?_, fun hB i b hib => ?_⟩
        · injection hx with h1 h2; subst h1; simp [updI, hi]
        · by_cases e : i = id
          · subst e; exact hB i blk hb
          · simp [updI, e] at hib; exact hB i b hib
      · cases h
    · cases h
  · cases h

theorem appendE_spec {t0 t1 : TypeId} {d : Nat} {tt : Option Tmp} {s s1 : St} {x v : E} (h : appendE P t0 t1 d tt s x v = some s1) : (∃ e, s1.env = (s.set tt e).env) ∧ (HB s → HB s1) := by
  have hnew : ∀ (hp : Heap) (b : Blk), (∀ id b, hp id = some b → id.2 < s.cnt id.1) → ∀ id b', updI hp (d, s.cnt d) (some b) id = some b' → id.2 < upd s.cnt d (s.cnt d + 1) id.1 := by
    intro hp b hB id b' hb
    by_cases e : id = (d, s.cnt d)
    · subst e; simp [upd]
    · simp [updI, e] at hb
      have := hB id b' hb
      unfold upd; split <;> simp_all; omega
  unfold appendE at h
  split at h
  · cases h
  split at h
  rotate_left
  · cases h
  split at h
  rotate_left
  · cases h
  split at h
  · cases h
  split at h
  · split at h
    · injection h with h; subst h; exact ⟨⟨_, rfl⟩, fun hB => by cases tt <;> exact hB⟩
    · split at h
      · injection h with h; subst h
        exact ⟨⟨_, by cases tt <;> rfl⟩, fun hB => by cases tt <;> exact hnew _ _ hB⟩
      · cases h
  · rename_i id sz off len
    split at h
    · cases h
    · rename_i blk hblk
      split at h
      · injection h with h; subst h
        refine ⟨⟨_, by cases tt <;> rfl⟩, fun hB => ?_⟩
        have := fun bk => hnew (updI s.heap id none) bk fun i b hb => by
          by_cases e : i = id
          · subst e; simp [updI] at hb
          · simp [updI, e] at hb; exact hB i b hb
        cases tt <;> exact this _
      · cases h
  · cases h

theorem copyE_spec {t0 t1 : TypeId} {d : Option Tmp} {s s1 : St} {x v : E} (h : copyE P t0 t1 d s x v = some s1) : (∃ e, s1.env = (s.set d e).env) ∧ (HB s → HB s1) := by
  unfold copyE at h
  split at h
  · cases h
  split at h
  rotate_left
  · cases h
  rename_i n id sz off len hn
  split at h
  rotate_left
  · cases h
  rename_i es blk hes hb
  split at h
  · injection h with h; subst h
    refine ⟨⟨_, by cases d <;> rfl⟩, fun hB => ?_⟩
    have : ∀ i b, updI s.heap id (some ⟨true, setRange blk.cells off (es.take (min (es.length / n) len * n))⟩) i = some b → i.2 < s.cnt i.1 := by
      intro i b hib
      by_cases e : i = id
      · subst e; exact hB i blk hb
      · simp [updI, e] at hib; exact hB i b hib
    cases d <;> exact this
  · cases h

theorem set_heap {s : St} {d : Option Tmp} {e : E} : (s.set d e).heap = s.heap := by cases d <;> rfl
theorem set_cnt {s : St} {d : Option Tmp} {e : E} : (s.set d e).cnt = s.cnt := by cases d <;> rfl
theorem HB_set {s : St} {d : Option Tmp} {e : E} : HB (s.set d e) ↔ HB s := by unfold HB; rw [set_heap, set_cnt]

theorem clearE_spec {t : TypeId} {d : Option Tmp} {s s1 : St} {x : E} (h : clearE P t d s x = some s1) : (∃ e, s1.env = (s.set d e).env) ∧ (HB s → HB s1) ∧ ∀ id : Id, (∀ sz off len, x ≠ .sl id sz off len) → s1.heap id = s.heap id := by
  have stay : ∀ e, (some (s.set d e) = some s1) → (∃ e, s1.env = (s.set d e).env) ∧ (HB s → HB s1) ∧ ∀ id : Id, (∀ sz off len, x ≠ .sl id sz off len) → s1.heap id = s.heap id := by
    intro e he; injection he with he; subst he
    exact ⟨⟨e, rfl⟩, fun hB => HB_set.2 hB, fun id _ => by rw [set_heap]⟩
  unfold clearE at h
  split at h
  · cases h
  split at h
  · rename_i n zs id sz off len hn hz
    split at h
    · exact stay _ h
    · split at h
      · rename_i blk hb
        split at h
        · injection h with h; subst h
          refine ⟨⟨_, by cases d <;> rfl⟩, fun hB => HB_set.2 fun i b hib => ?_, fun i hne => ?_⟩
          · by_cases e : i = id
            · subst e; exact hB i blk hb
            · simp [updI, e] at hib; exact hB i b hib
          · rw [set_heap]; simp only [updI]
            rw [if_neg (fun e => hne sz off len (by rw [e]))]
        · cases h
      · cases h
  · exact stay _ h
  · exact stay _ h
  · cases h

theorem evalW_spec {s s1 : St} {nm : Nat} {o : Oper} (h : evalW P nm s o = some s1) : (∃ e, s1.env = (s.set o.dst e).env) ∧ (HB s → HB s1) := by
  unfold evalW at h
  split at h
  · simp only [Option.map_eq_some_iff] at h
    obtain ⟨s2, h2, rfl⟩ := h
    obtain ⟨g1, g2, _, g4⟩ := storeE_spec h2
    refine ⟨⟨.tup [], ?_⟩, fun hB => HB_set.2 (g4 hB)⟩
    cases o.dst with
    | none => exact g1
    | some d => simp [St.set, g1]
  · split at h
    · exact appendE_spec h
    · cases h
  · split at h
    · exact copyE_spec h
    · cases h
  · split at h
    · exact ⟨(clearE_spec h).1, (clearE_spec h).2.1⟩
    · cases h
  · cases h

theorem StepK.env {k : Kd} {o : Oper} {s s' : St} (h : StepK P ops k o s s') : ∃ e, s'.env = (s.set o.dst e).env := by
  cases h with
  | skip _ => exact ⟨_, rfl⟩
  | vs _ _ => exact ⟨_, rfl⟩
  | qs _ _ => exact ⟨_, rfl⟩
  | vr _ _ => exact ⟨_, rfl⟩
  | qr _ _ => exact ⟨_, rfl⟩
  | rn _ _ => exact ⟨_, rfl⟩
  | rb _ _ => exact ⟨_, rfl⟩
  | wb _ he _ => exact (evalW_spec he).1
  | a _ _ => exact ⟨_, by cases o.dst <;> rfl⟩
  | w _ he => exact (evalW_spec he).1
  | wn _ _ _ he => exact (evalW_spec he).1
  | l _ _ => exact ⟨_, by cases o.dst <;> rfl⟩

theorem StepK.env_ne {k : Kd} {o : Oper} {s s' : St} (h : StepK P ops k o s s') {t : Nat} (ht : o.dst ≠ some t) : s'.env t = s.env t := by
  obtain ⟨e, he⟩ := h.env
  rw [he, set_env ht]

theorem StepK.hb {k : Kd} {o : Oper} {s s' : St} (h : StepK P ops k o s s') (hB : HB s) : HB s' := by
  cases h with
  | skip _ => exact HB_set.2 hB
  | vs _ _ => exact HB_set.2 hB
  | qs _ _ => exact HB_set.2 hB
  | vr _ _ => exact HB_set.2 hB
  | qr _ _ => exact HB_set.2 hB
  | rn _ _ => exact HB_set.2 hB
  | rb _ _ => exact HB_set.2 hB
  | wb _ he _ => exact (evalW_spec he).2 hB
  | a h1 h3 =>
    rename_i d cs mk
    refine HB_set.2 fun id b hb => ?_
    simp only [St.newBlk] at hb ⊢
    by_cases e : id = (d, s.cnt d)
    · subst e; simp [upd]
    · simp [updI, e] at hb
      have := hB id b hb
      unfold upd; split <;> simp_all; omega
  | w _ he => exact (evalW_spec he).2 hB
  | wn _ _ _ he => exact (evalW_spec he).2 hB
  | l _ hl =>
    rename_i h0 h1 r
    obtain ⟨f, args, types, g, caps, xs, hop, hfv, hg, hconv, hsub, hids, hnh, hrn, hspec⟩ := hl.ex
    refine HB_set.2 fun id b hb => ?_
    simp only [merge] at hb
    split at hb
    · rename_i b1 hb1
      obtain ⟨b0, e0⟩ := hids _ _ hb1
      exact hB id b0 (hsub _ _ e0).1
    · split at hb
      · cases hb
      · exact hB id b hb

/-- A step that only gives a value. -/
inductive Yld (P : Program) (ops : Array Oper) : Kd → Oper → St → E → Prop
  | skip {k : Kd} {o : Oper} {s : St} : wantedE ops s o = some false → Yld P ops k o s (.tup [])
  | vs {o : Oper} {s : St} {e : E} : wantedE ops s o = some true → evalV P s.val noHeap o.op = some e → Yld P ops .s o s e
  | qs {o : Oper} {s : St} {r : E} : wantedE ops s o = some true → QCall P s noHeap o r → Yld P ops .s o s r
  | vr {o : Oper} {s : St} {e : E} : wantedE ops s o = some true → evalV P s.val s.heap o.op = some e → Yld P ops .r o s e
  | qr {o : Oper} {s : St} {r : E} : wantedE ops s o = some true → QCall P s s.heap o r → Yld P ops .r o s r
  | rn {d : Nat} {o : Oper} {s : St} {e : E} : wantedE ops s o = some true → evalV P s.val (onlyName d s.heap) o.op = some e → Yld P ops (.rn d) o s e
  | rb {i : Id} {o : Oper} {s : St} {e : E} : wantedE ops s o = some true → evalV P s.val (onlyId i s.heap) o.op = some e → Yld P ops (.rb i) o s e

def Kd.reads : Kd → Bool
  | .s | .r | .rn _ | .rb _ => true
  | _ => false

theorem StepK.yld {k : Kd} {o : Oper} {s s' : St} (h : StepK P ops k o s s') (hk : k.reads = true) : ∃ e, Yld P ops k o s e ∧ s' = s.set o.dst e := by
  cases h with
  | skip h1 => exact ⟨_, .skip h1, rfl⟩
  | vs h1 h2 => exact ⟨_, .vs h1 h2, rfl⟩
  | qs h1 h2 => exact ⟨_, .qs h1 h2, rfl⟩
  | vr h1 h2 => exact ⟨_, .vr h1 h2, rfl⟩
  | qr h1 h2 => exact ⟨_, .qr h1 h2, rfl⟩
  | rn h1 h2 => exact ⟨_, .rn h1 h2, rfl⟩
  | rb h1 h2 => exact ⟨_, .rb h1 h2, rfl⟩
  | _ => simp [Kd.reads] at hk

theorem Yld.step {k : Kd} {o : Oper} {s : St} {e : E} (h : Yld P ops k o s e) : StepK P ops k o s (s.set o.dst e) := by
  cases h with
  | skip h1 => exact .skip h1
  | vs h1 h2 => exact .vs h1 h2
  | qs h1 h2 => exact .qs h1 h2
  | vr h1 h2 => exact .vr h1 h2
  | qr h1 h2 => exact .qr h1 h2
  | rn h1 h2 => exact .rn h1 h2
  | rb h1 h2 => exact .rb h1 h2

theorem wantedE_congr {s s' : St} {o : Oper} (h : ∀ t ∈ o.looksAt ops, s'.env t = s.env t) : wantedE ops s' o = wantedE ops s o := by
  unfold wantedE
  cases hg : o.guard with
  | none => rfl
  | some gw =>
    obtain ⟨j, want⟩ := gw
    simp only
    cases hd : (ops[j]?).bind (·.dst) with
    | none => rfl
    | some t => simp only [h t (by simp [Oper.looksAt, hg, hd])]

theorem val_congr {s s' : St} {o : Oper} (h : ∀ t ∈ o.looksAt ops, s'.env t = s.env t) : ∀ x ∈ o.op.operands, s'.val x = s.val x := by
  intro x hx
  cases x with
  | tmp t => exact h t (List.mem_append_left _ (List.mem_filterMap.2 ⟨.tmp t, by simpa using hx, rfl⟩))
  | _ => rfl

theorem Conv.mono {h h' : Heap} {ok ok' : Id → Prop} (hs : subH h h') (ho : ∀ id, ok id → ok' id) {e r : E} (hc : Conv h ok e r) : Conv h' ok' e r := by
  induction hc with
  | refl e => exact .refl e
  | nil sz => exact .nil sz
  | sl hb hid hsz hv hlen _ ih => exact .sl (hs _ _ hb) (ho _ hid) hsz hv hlen ih
  | agg hl _ ih => exact .agg hl ih
  | aggp hl _ ih => exact .aggp hl ih
  | tup hl _ ih => exact .tup hl ih
  | fn hl _ ih => exact .fn hl ih

theorem QCall.congr {s s' : St} {hp hp' : Heap} {o : Oper} {r : E} (h : QCall P s hp o r) (he : ∀ x ∈ o.op.operands, s'.val x = s.val x) (hs : subH hp hp') : QCall P s' hp' o r := by
  obtain ⟨f, args, types, g, caps, xs, hop, hfv, hg, hconv, hnr, hrn, hspec⟩ := h.ex
  refine ⟨f, args, types, g, caps, xs, hop, ?_, hg, ?_, hnr, hrn, hspec⟩
  · rw [he f (by rw [hop]; simp [Op.operands, Call.operands])]; exact hfv
  · have : callArgs s' args caps = callArgs s args caps := by
      unfold callArgs; rw [map_congr_toList fun x hx => he x (by rw [hop]; simp [Op.operands, Call.operands, hx])]
    rw [this]
    exact ⟨hconv.1, fun j h1 h2 => (hconv.2 j h1 h2).mono hs fun id => fun
      | .inl hsc => .inl hsc
      | .inr ⟨b, hb, hex⟩ => .inr ⟨b, hs _ _ hb, hex⟩⟩

theorem Yld.transport {k : Kd} {o : Oper} {s s' : St} {e : E} (h : Yld P ops k o s e) (he : ∀ t ∈ o.looksAt ops, s'.env t = s.env t) (hr : k = .r → subH s.heap s'.heap)
    (hn : ∀ d, k = .rn d → subH (onlyName d s.heap) (onlyName d s'.heap)) (hb : ∀ i, k = .rb i → subH (onlyId i s.heap) (onlyId i s'.heap)) : Yld P ops k o s' e := by
  have hw := wantedE_congr (ops := ops) he
  have hv := val_congr (ops := ops) he
  cases h with
  | skip h1 => exact .skip (by rw [hw]; exact h1)
  | vs h1 h2 => exact .vs (by rw [hw]; exact h1) (by rw [evalV_congr hv]; exact h2)
  | qs h1 h2 => exact .qs (by rw [hw]; exact h1) (h2.congr hv fun _ _ q => q)
  | vr h1 h2 => exact .vr (by rw [hw]; exact h1) (by rw [evalV_congr hv]; exact evalV_mono (hr rfl) h2)
  | qr h1 h2 => exact .qr (by rw [hw]; exact h1) (h2.congr hv (hr rfl))
  | rn h1 h2 => exact .rn (by rw [hw]; exact h1) (by rw [evalV_congr hv]; exact evalV_mono (hn _ rfl) h2)
  | rb h1 h2 => exact .rb (by rw [hw]; exact h1) (by rw [evalV_congr hv]; exact evalV_mono (hb _ rfl) h2)

/-- Which may change places: the first as the text has them, the later one. -/
def mayPass : Kd → Kd → Bool
  | .s, _ => true
  | _, .s => true
  | .r, .r | .r, .rn _ | .rn _, .r | .rn _, .rn _ => true
  | .r, .a | .rn _, .a => true
  | .rn d, .wn d' => d != d'
  | .rb i, .wb j => decide (i ≠ j)
  | .rb _, .a | .rb _, .r | .rb _, .rn _ | .rb _, .rb _ | .r, .rb _ | .rn _, .rb _ => true
  | _, _ => false

theorem subH_only {d : Nat} {h h' : Heap} (hs : ∀ id b, id.1 = d → h id = some b → h' id = some b) : subH (onlyName d h) (onlyName d h') := by
  intro id b hb
  unfold onlyName at hb ⊢
  split at hb
  · rename_i e; rw [if_pos e]; exact hs id b e hb
  · cases hb

theorem subH_id {i : Id} {h h' : Heap} (hs : ∀ b, h i = some b → h' i = some b) : subH (onlyId i h) (onlyId i h') := by
  intro id b hb
  unfold onlyId at hb ⊢
  split at hb
  · rename_i e; subst e; rw [if_pos rfl]; exact hs b hb
  · cases hb

theorem swap {kj ki : Kd} {oj oi : Oper} {s s1 s2 : St} (hj : StepK P ops kj oj s s1) (hi : StepK P ops ki oi s1 s2) (hap : oj.apart ops oi = true) (hal : mayPass kj ki = true) (hB : HB s) :
    ∃ s1', StepK P ops ki oi s s1' ∧ StepK P ops kj oj s1' s2 := by
  obtain ⟨a1, a2, a3⟩ := Oper.apart_spec hap
  by_cases hread : kj.reads = true
  · -- the first only gives a value
    obtain ⟨e, hy, rfl⟩ := hj.yld hread
    have hback : ∃ s1', StepK P ops ki oi s s1' ∧ s2 = s1'.set oj.dst e := by
      cases hd : oj.dst with
      | none => rw [hd] at hi; exact ⟨s2, hi, rfl⟩
      | some d =>
        rw [hd] at hi
        have hne : oi.dst ≠ some d := a2 d hd
        have := hi.set (e := s.env d) (a1 d hd) hne
        rw [set_self] at this
        refine ⟨_, this, ?_⟩
        have he : s2.env d = e := by rw [hi.env_ne hne]; simp [St.set, upd]
        cases s2 with
        | mk env heap cnt =>
          simp only [St.set]
          congr 1
          funext j
          simp only [upd]
          simp only at he
          by_cases hjd : j = d
          · subst hjd; simp [he]
          · simp [hjd]
    obtain ⟨s1', h1, rfl⟩ := hback
    refine ⟨s1', h1, (hy.transport (fun t ht => ?_) (fun hk => ?_) (fun d hk => ?_) fun id hk => ?_).step⟩
    · exact h1.env_ne fun hd => a3 t hd ht
    · subst hk
      by_cases hir : ki.reads = true
      · obtain ⟨e', _, rfl⟩ := h1.yld hir
        rw [set_heap]; exact fun _ _ q => q
      · cases ki <;> simp [Kd.reads] at hir <;> simp [mayPass] at hal
        cases h1 with
        | skip _ => rw [set_heap]; exact fun _ _ q => q
        | a h1 h2 =>
          intro id b hb
          have := hB id b hb
          simp only [set_heap, St.newBlk, updI]
          rw [if_neg (fun he => by subst he; simp at this)]
          exact hb
    · subst hk
      by_cases hir : ki.reads = true
      · obtain ⟨e', _, rfl⟩ := h1.yld hir
        rw [set_heap]; exact fun _ _ q => q
      · cases ki <;> simp [Kd.reads] at hir <;> simp [mayPass] at hal
        · cases h1 with
          | skip _ => rw [set_heap]; exact fun _ _ q => q
          | a h1 h2 =>
            refine subH_only fun id b _ hb => ?_
            have := hB id b hb
            simp only [set_heap, St.newBlk, updI]
            rw [if_neg (fun he => by subst he; simp at this)]
            exact hb
        · cases h1 with
          | skip _ => rw [set_heap]; exact fun _ _ q => q
          | wn h1 h2 h3 h4 =>
            rename_i nm t x v id off
            refine subH_only fun i b hid hb => ?_
            unfold evalW at h4
            simp only [h2, Option.map_eq_some_iff] at h4
            obtain ⟨s3, h5, rfl⟩ := h4
            obtain ⟨_, _, g3, _⟩ := storeE_spec h5
            rw [set_heap, g3 id off h3 i (fun he => hal (by rw [← hid, he]))]
            exact hb
    · subst hk
      by_cases hir : ki.reads = true
      · obtain ⟨e', _, rfl⟩ := h1.yld hir
        rw [set_heap]; exact fun _ _ q => q
      · cases ki <;> simp [Kd.reads] at hir <;> simp [mayPass] at hal
        · cases h1 with
          | skip _ => rw [set_heap]; exact fun _ _ q => q
          | a h1 h2 =>
            refine subH_id fun b hb => ?_
            have := hB id b hb
            simp only [set_heap, St.newBlk, updI]
            rw [if_neg (fun he => by subst he; simp at this)]
            exact hb
        · cases h1 with
          | skip _ => rw [set_heap]; exact fun _ _ q => q
          | wb h1 h2 h3 =>
            refine subH_id fun b hb => ?_
            rw [h3 id hal (hB id b hb)]
            exact hb
  · -- the later one hangs on slots alone
    have hks : ki = .s := by
      cases kj <;> simp [Kd.reads] at hread <;> cases ki <;> simp [mayPass] at hal <;> rfl
    subst hks
    obtain ⟨e, hy, rfl⟩ := hi.yld rfl
    have hy' : Yld P ops .s oi s e := hy.transport (fun t ht => (hj.env_ne fun hd => a1 t hd ht).symm) (fun hk => by cases hk) (fun d hk => by cases hk) fun i hk => by cases hk
    refine ⟨_, hy'.step, ?_⟩
    cases hd : oi.dst with
    | none => exact hj
    | some d => exact hj.set (a3 d hd) fun h' => a2 d h' hd

end
end Go.Vm
