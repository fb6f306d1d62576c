/- The order in which a region's operations are taken. No condition. -/
import Derived.Test.YtfjmcdacnhfacaaGreatDoorVmM
set_option linter.all false
namespace Go.Vm
open Go

section
variable {P : Program} {ops : Array Oper}

theorem map_congr_toList {val val' : Operand → E} {xs : Array Operand} (h : ∀ x ∈ xs, val x = val' x) : xs.toList.map val = xs.toList.map val' :=
  List.map_congr_left fun x hx => h x (by simpa using hx)

theorem parts_congr {val val' : Operand → E} {ps : Array (Nat × Operand)} (h : ∀ x ∈ (ps.toList.map (·.2)).toArray, val x = val' x) :
    (ps.toList.map fun x => (x.1, val x.2)) = ps.toList.map fun x => (x.1, val' x.2) :=
  List.map_congr_left fun x hx => by rw [h x.2 (by simp only [List.mem_toArray, List.mem_map]; exact ⟨x, hx, rfl⟩)]

theorem evalS_congr {val val' : Operand → E} {h : Heap} {op : Op} (hv : ∀ x ∈ op.operands, val x = val' x) : evalS P val h op = evalS P val' h op := by
  unfold evalS
  split
  case h_9 f first caps => rw [map_congr_toList (xs := caps) fun x hx => hv x (by simp [Op.operands, hx])]
  case h_10 t x lo hi mx =>
    have hl : lo.map val = lo.map val' := by cases lo <;> simp; exact hv _ (by simp [Op.operands])
    have hh : hi.map val = hi.map val' := by cases hi <;> simp; exact hv _ (by simp [Op.operands])
    have hm : mx.map val = mx.map val' := by cases mx <;> simp; exact hv _ (by simp [Op.operands])
    rw [hv x (by simp [Op.operands]), hl, hh, hm]
  case h_16 b args types =>
    have ha : ∀ x ∈ args.toList, val x = val' x := fun x hx => hv x (by simp [Op.operands, Call.operands]; simpa using hx)
    split
    · rename_i x t hx _; rw [ha x (by rw [hx]; simp)]
    · rename_i x y hx; rw [ha x (by rw [hx]; simp), ha y (by rw [hx]; simp)]
    · rename_i x y hx; rw [ha x (by rw [hx]; simp), ha y (by rw [hx]; simp)]
    · rfl
  case h_3 c a b => rw [hv c (by simp [Op.operands]), hv a (by simp [Op.operands]), hv b (by simp [Op.operands])]
  case h_17 => rfl
  case h_6 op t x y ty => rw [hv x (by simp [Op.operands]), hv y (by simp [Op.operands])]
  case h_13 t x i => rw [hv x (by simp [Op.operands]), hv i (by simp [Op.operands])]
  case h_14 t x i => rw [hv x (by simp [Op.operands]), hv i (by simp [Op.operands])]
  case h_1 x => rw [hv x (by simp [Op.operands])]
  case h_2 x => rw [hv x (by simp [Op.operands])]
  case h_4 t x => rw [hv x (by simp [Op.operands])]
  case h_5 x => rw [hv x (by simp [Op.operands])]
  case h_7 op t x => rw [hv x (by simp [Op.operands])]
  case h_8 src dst x => rw [hv x (by simp [Op.operands])]
  case h_11 t x k => rw [hv x (by simp [Op.operands])]
  case h_12 t x k => rw [hv x (by simp [Op.operands])]
  case h_15 x i => rw [hv x (by simp [Op.operands])]

theorem evalV_congr {val val' : Operand → E} {h : Heap} {op : Op} (hv : ∀ x ∈ op.operands, val x = val' x) : evalV P val h op = evalV P val' h op := by
  unfold evalV
  split
  · rw [parts_congr (by simpa [Op.operands] using hv)]
  · rename_i x
    rw [hv x (by simp [Op.operands])]
  · exact evalS_congr hv

theorem evalA_congr {val val' : Operand → E} {op : Op} (hv : ∀ x ∈ op.operands, val x = val' x) : evalA P val op = evalA P val' op := by
  unfold evalA
  split
  · rfl
  · rename_i t x; rw [hv x (by simp [Op.operands])]
  · rw [parts_congr (by simpa [Op.operands] using hv)]
  · rename_i t l c; rw [hv l (by simp [Op.operands]), hv c (by simp [Op.operands])]
  · rename_i src dst x; rw [hv x (by simp [Op.operands])]
  · rfl

theorem val_set {s : St} {d : Nat} {e : E} {x : Operand} (h : x ≠ .tmp d) : (s.set (some d) e).val x = s.val x := by
  cases x with
  | tmp t =>
    have : t ≠ d := fun h' => h (by rw [h'])
    simp [St.val, St.set, upd, this]
  | _ => rfl

theorem set_comm {s : St} {d : Nat} {x : Option Tmp} {e e' : E} (h : x ≠ some d) : (s.set (some d) e).set x e' = (s.set x e').set (some d) e := by
  cases x with
  | none => rfl
  | some t =>
    have hne : t ≠ d := fun h' => h (by rw [h'])
    simp only [St.set]
    congr 1
    funext j
    simp only [upd]
    by_cases h1 : j = t
    · subst h1; simp [hne]
    · simp [h1]

theorem set_env {s : St} {x : Option Tmp} {e : E} {t : Nat} (h : x ≠ some t) : (s.set x e).env t = s.env t := by
  cases x with
  | none => rfl
  | some d =>
    have : t ≠ d := fun h' => h (by rw [h'])
    simp [St.set, upd, this]

theorem set_self {s : St} {d : Nat} {e : E} : (s.set (some d) e).set (some d) (s.env d) = s := by
  cases s with
  | mk env heap cnt =>
    simp only [St.set]
    congr 1
    funext j
    simp only [upd]
    by_cases h : j = d
    · simp [h]
    · simp [h]

theorem wantedE_set {s : St} {d : Nat} {e : E} {o : Oper} (h : d ∉ o.looksAt ops) : wantedE ops (s.set (some d) e) o = wantedE ops s o := by
  unfold wantedE
  cases hg : o.guard with
  | none => rfl
  | some gw =>
    obtain ⟨j, want⟩ := gw
    simp only
    cases hd : (ops[j]?).bind (·.dst) with
    | none => rfl
    | some t =>
      have : t ≠ d := fun h' => h (by subst h'; simp [Oper.looksAt, hg, hd])
      simp only [set_env (x := some d) (fun h' => this (by injection h' with h'; exact h'.symm))]

theorem look_ne {o : Oper} {d : Nat} (h : d ∉ o.looksAt ops) : ∀ x ∈ o.op.operands, x ≠ .tmp d := by
  intro x hx hxd
  subst hxd
  exact h (List.mem_append_left _ (List.mem_filterMap.2 ⟨.tmp d, by simpa using hx, rfl⟩))

theorem storeE_set {s : St} {d : Nat} {e : E} {t : TypeId} {x v : E} : storeE P t (s.set (some d) e) x v = (storeE P t s x v).map (·.set (some d) e) := by
  unfold storeE
  cases x <;> try (simp only [Option.map_none]; done)
  cases v.cells <;> try (simp only [Option.map_none]; done)
  simp only [St.set]
  split
  · split <;> simp
  · simp

theorem appendE_set {s : St} {d nm : Nat} {tt : Option Tmp} (hne : tt ≠ some d) {e : E} {t0 t1 : TypeId} {x v : E} : appendE P t0 t1 nm tt (s.set (some d) e) x v = (appendE P t0 t1 nm tt s x v).map (·.set (some d) e) := by
  have hc : ∀ (s : St) (e' : E), (s.set (some d) e).set tt e' = (s.set tt e').set (some d) e := fun s e' => set_comm hne
  unfold appendE
  cases tElem P t0 <;> try (simp only [Option.map_none]; done)
  simp only
  split <;> try (simp only [Option.map_none]; done)
  split <;> try (simp only [Option.map_none]; done)
  have hheap : (s.set (some d) e).heap = s.heap := rfl
  have hcnt : (s.set (some d) e).cnt = s.cnt := rfl
  rw [hheap, hcnt]
  cases srcE P t1 _ s.heap v <;> try (simp only [Option.map_none]; done)
  cases x <;> try (simp only [Option.map_none]; done)
  all_goals simp only
  · split
    · simp only [Option.map_some, hc]
    · split
      · simp only [Option.map_some, ← hc]; rfl
      · rfl
  · split
    · rfl
    · split
      · simp only [Option.map_some, ← hc]; rfl
      · rfl

theorem copyE_set {s : St} {d : Nat} {d' : Option Tmp} (hne : d' ≠ some d) {e : E} {t0 t1 : TypeId} {x v : E} : copyE P t0 t1 d' (s.set (some d) e) x v = (copyE P t0 t1 d' s x v).map (·.set (some d) e) := by
  have hc : ∀ (s : St) (e' : E), (s.set (some d) e).set d' e' = (s.set d' e').set (some d) e := fun s e' => set_comm hne
  unfold copyE
  cases tElem P t0 <;> try (simp only [Option.map_none]; done)
  have hheap : (s.set (some d) e).heap = s.heap := rfl
  rw [hheap]
  simp only
  cases tSize P _ <;> cases x <;> try (simp only [Option.map_none]; done)
  simp only
  split
  · split
    · simp only [Option.map_some, ← hc]; rfl
    · rfl
  · rfl

theorem clearE_set {s : St} {d : Nat} {d' : Option Tmp} (hne : d' ≠ some d) {e : E} {t : TypeId} {x : E} : clearE P t d' (s.set (some d) e) x = (clearE P t d' s x).map (·.set (some d) e) := by
  have hc : ∀ (s : St) (e' : E), (s.set (some d) e).set d' e' = (s.set d' e').set (some d) e := fun s e' => set_comm hne
  unfold clearE
  cases tElem P t <;> try (simp only [Option.map_none]; done)
  have hheap : (s.set (some d) e).heap = s.heap := rfl
  rw [hheap]
  simp only
  split
  · split
    · simp only [Option.map_some, hc]
    · split
      · split
        · simp only [Option.map_some, ← hc]; rfl
        · rfl
      · rfl
  · simp only [Option.map_some, hc]
  · simp only [Option.map_some, hc]
  · rfl

theorem evalW_set {s s' : St} {d nm : Nat} {e : E} {o : Oper} (h : d ∉ o.looksAt ops) (hd : o.dst ≠ some d) (he : evalW P nm s o = some s') : evalW P nm (s.set (some d) e) o = some (s'.set (some d) e) := by
  have hne := look_ne h
  unfold evalW at he ⊢
  split at he
  · rename_i t x v hop
    rw [val_set (hne x (by rw [hop]; simp [Op.operands])), val_set (hne v (by rw [hop]; simp [Op.operands])), storeE_set]
    simp only [Option.map_eq_some_iff] at he ⊢
    obtain ⟨s1, h1, rfl⟩ := he
    exact ⟨_, ⟨s1, h1, rfl⟩, set_comm hd⟩
  · rename_i args types hop
    split at he
    · rename_i x y t0 t1 hxy htt
      have e1 : args = #[x, y] := by apply Array.ext'; simpa using hxy
      subst e1
      try simp only [htt]
      rw [val_set (hne x (by rw [hop]; simp [Op.operands, Call.operands])), val_set (hne y (by rw [hop]; simp [Op.operands, Call.operands])),
        appendE_set hd, he]
      rfl
    · cases he
  · rename_i args types hop
    split at he
    · rename_i x y t0 t1 hxy htt
      have e1 : args = #[x, y] := by apply Array.ext'; simpa using hxy
      subst e1
      try simp only [htt]
      rw [val_set (hne x (by rw [hop]; simp [Op.operands, Call.operands])), val_set (hne y (by rw [hop]; simp [Op.operands, Call.operands])), copyE_set hd, he]
      rfl
    · cases he
  · rename_i args types hop
    split at he
    · rename_i x t hxy htt
      have e1 : args = #[x] := by apply Array.ext'; simpa using hxy
      subst e1
      try simp only [htt]
      rw [val_set (hne x (by rw [hop]; simp [Op.operands, Call.operands])), clearE_set hd, he]
      rfl
    · cases he
  · cases he

theorem callArgs_set {s : St} {d : Nat} {e : E} {args : Array Operand} {caps : List E} (h : ∀ x ∈ args, x ≠ .tmp d) : callArgs (s.set (some d) e) args caps = callArgs s args caps := by
  unfold callArgs
  rw [map_congr_toList fun x hx => val_set (h x hx)]

theorem QCall.set {s : St} {hp : Heap} {o : Oper} {r : E} (h : QCall P s hp o r) {d : Nat} {e : E} (hl : d ∉ o.looksAt ops) : QCall P (s.set (some d) e) hp o r := by
  obtain ⟨f, args, types, g, caps, xs, hop, hfv, hg, hconv, hnr, hrn, hspec⟩ := h.ex
  have hne := look_ne hl
  refine ⟨f, args, types, g, caps, xs, hop, ?_, hg, ?_, hnr, hrn, hspec⟩
  · rw [val_set (hne f (by rw [hop]; simp [Op.operands, Call.operands]))]; exact hfv
  · rw [callArgs_set fun x hx => hne x (by rw [hop]; simp [Op.operands, Call.operands, hx])]; exact hconv

theorem LCall.set {s : St} {o : Oper} {h0 h1 : Heap} {r : E} (h : LCall P s o h0 h1 r) {d : Nat} {e : E} (hl : d ∉ o.looksAt ops) : LCall P (s.set (some d) e) o h0 h1 r := by
  obtain ⟨f, args, types, g, caps, xs, hop, hfv, hg, hconv, hsub, hids, hnh, hrn, hspec⟩ := h.ex
  have hne := look_ne hl
  refine ⟨f, args, types, g, caps, xs, hop, ?_, hg, ?_, hsub, hids, hnh, hrn, hspec⟩
  · rw [val_set (hne f (by rw [hop]; simp [Op.operands, Call.operands]))]; exact hfv
  · rw [callArgs_set fun x hx => hne x (by rw [hop]; simp [Op.operands, Call.operands, hx])]; exact hconv

theorem evalV_set {s : St} {hp : Heap} {d : Nat} {e : E} {o : Oper} (h : d ∉ o.looksAt ops) : evalV P (s.set (some d) e).val hp o.op = evalV P s.val hp o.op :=
  evalV_congr fun x hx => val_set (look_ne h x hx)

/-- A step does not mind what lies in a slot that it neither looks at nor writes. -/
theorem StepK.set {k : Kd} {o : Oper} {s s' : St} (h : StepK P ops k o s s') {d : Nat} {e : E} (hl : d ∉ o.looksAt ops) (hd : o.dst ≠ some d) : StepK P ops k o (s.set (some d) e) (s'.set (some d) e) := by
  have hw := wantedE_set (ops := ops) (s := s) (e := e) hl
  cases h with
  | skip h1 => rw [← set_comm hd]; exact .skip (by rw [hw]; exact h1)
  | vs h1 h2 => rw [← set_comm hd]; exact .vs (by rw [hw]; exact h1) (by rw [evalV_set hl]; exact h2)
  | qs h1 h2 => rw [← set_comm hd]; exact .qs (by rw [hw]; exact h1) (h2.set hl)
  | vr h1 h2 => rw [← set_comm hd]; exact .vr (by rw [hw]; exact h1) (by rw [evalV_set hl]; exact h2)
  | qr h1 h2 => rw [← set_comm hd]; exact .qr (by rw [hw]; exact h1) (h2.set hl)
  | rn h1 h2 => rw [← set_comm hd]; exact .rn (by rw [hw]; exact h1) (by rw [evalV_set hl]; exact h2)
  | rb h1 h2 => rw [← set_comm hd]; exact .rb (by rw [hw]; exact h1) (by rw [evalV_set hl]; exact h2)
  | wb h1 h2 h3 => exact .wb (by rw [hw]; exact h1) (evalW_set hl hd h2) h3
  | a h1 h3 =>
    rename_i nm cs mk
    rw [← set_comm hd]
    have := StepK.a (P := P) (ops := ops) (s := s.set (some d) e) (o := o) (nm := nm) (by rw [hw]; exact h1) (by rw [evalA_congr fun x hx => val_set (look_ne hl x hx)]; exact h3)
    exact this
  | w h1 h2 => exact .w (by rw [hw]; exact h1) (evalW_set hl hd h2)
  | wn h1 h2 h3 h4 =>
    rename_i t x v id off
    exact .wn (by rw [hw]; exact h1) h2 (by rw [val_set (look_ne hl x (by rw [h2]; simp [Op.operands]))]; exact h3) (evalW_set hl hd h4)
  | l h1 h2 =>
    rw [← set_comm hd]
    have := StepK.l (ops := ops) (s := s.set (some d) e) (by rw [hw]; exact h1) (h2.set hl)
    exact this

end
end Go.Vm
