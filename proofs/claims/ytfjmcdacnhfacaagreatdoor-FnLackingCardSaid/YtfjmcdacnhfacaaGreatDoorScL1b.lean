/- The law's body between the two calls that share a slice. No condition. -/
import Derived.Test.YtfjmcdacnhfacaaGreatDoorScL1
set_option linter.all false
open Go Go.Vm Go.Proofs
namespace Go.Proofs.YtfjmcdacnhfacaaGreatDoor.Sc
def mix (d : DS) (H : Heap) (n : Nat → Nat) : St := ⟨d.env.get, H, n⟩
theorem mix_set {d : DS} {H : Heap} {n : Nat → Nat} {t : Option Tmp} {e : E} (hd : dstIn t = true) : (mix d H n).set t e = mix (d.put t e) H n := by
  have h := congrArg St.env (put_st (s := d) (d := t) (e := e) hd)
  cases t with
  | none => rfl
  | some t => simp only [mix, St.set]; congr 1; exact h.symm
def gE (o : Option E) : E := o.getD .dead
theorem gE_some {o : Option E} (h : o.isSome = true) : o = some (gE o) := by cases o with
  | none => cases h
  | some x => rfl
section
variable {ops : Array Oper} {o : Oper} {l : List Oper} {K : St → Prop} {d : DS} {H : Heap} {n k0 : Nat → Nat}
theorem AL_ev (hd : dstIn o.dst = true) (hw : wantedE ops (mix d H n) o = some true) (h : (evalV Tryz.prog (mix d H n).val H o.op).isSome = true)
    (hn : AL Tryz.prog k0 ops K l (mix (d.put o.dst (gE (evalV Tryz.prog (mix d H n).val H o.op))) H n)) : AL Tryz.prog k0 ops K (o :: l) (mix d H n) := by
  rw [← mix_set hd] at hn
  exact AL.step (k := .r) (.vr hw (gE_some h)) hn
theorem conv_flat {ok : Go.Vm.Id → Prop} {id : Go.Vm.Id} {blk : Blk} {sz len : Nat} {ps : List Go.Vm.P} (hb : H id = some blk) (hok : ok id) (hf : flatEs blk.cells = some ps) (hsz : 0 < sz) (hl : blk.cells.length = len * sz) : Conv H ok (.sl id sz 0 len) (.p (.list sz ps)) := by
  obtain ⟨g1, g2⟩ := flatEs_conv (h := H) (ok := ok) hf
  refine Conv.sl hb hok hsz (by omega) (by omega) fun j h1 h2 => ?_
  have := g2 j (by omega) h1
  simpa using this
/-- A slot's slice is plain from here on; its block is shared. -/
theorem AL_freeze {t : Tmp} {id : Go.Vm.Id} {ex : Bool} {sz len : Nat} {cells : List E} {ps : List Go.Vm.P} (ht : t < 1000000) (hv : d.env.get t = .sl id sz 0 len) (hb : H id = some ⟨ex, cells⟩) (hfl : flatEs cells = some ps) (hsz : 0 < sz) (hl : cells.length = len * sz)
    (hn : AL Tryz.prog k0 ops K l (mix (d.put (some t) (.p (.list sz ps))) (updI H id (some ⟨false, cells⟩)) n)) : AL Tryz.prog k0 ops K l (mix d H n) := by
  have h1 : Goes k0 (mix d H n) (mix d (updI H id (some ⟨false, cells⟩)) n) := by
    cases ex with
    | true => exact Goes.share hb
    | false =>
      have : updI H id (some ⟨false, cells⟩) = H := by
        funext i; unfold updI; split
        · rename_i he; rw [he, hb]
        · rfl
      rw [this]; exact Goes.refl
  refine AL.ghost (h1.trans (Goes.conv (t := t) (r := .p (.list sz ps)) ?_)) ?_
  · have hb' : updI H id (some (Blk.mk false cells)) id = some ⟨false, cells⟩ := by simp [updI]
    show Conv (updI H id (some ⟨false, cells⟩)) _ (d.env.get t) _
    rw [hv]
    exact conv_flat hb' ⟨_, hb', rfl⟩ hfl hsz hl
  · rw [mix_set (by simp [dstIn, ht])]; exact hn
end
def opsOf : Code → Array Oper
  | .region _ ops _ => ops
  | _ => #[]
noncomputable def op7 (i : Nat) : Oper := (opsOf (k 7)).toList.getD i default
noncomputable def op8 (i : Nat) : Oper := (opsOf (k 8)).toList.getD i default
theorem list7 : (opsOf (k 7)).toList = [op7 0, op7 1, op7 2, op7 3, op7 4, op7 5, op7 6] := by kernel_rfl
theorem list8 : (opsOf (k 8)).toList = [op8 0, op8 1, op8 2, op8 3, op8 4, op8 5, op8 6, op8 7, op8 8, op8 9] := by kernel_rfl
theorem shape7 : k 7 = .region 8 (opsOf (k 7)) false := by kernel_rfl
theorem shape8 : k 8 = .region 9 (opsOf (k 8)) false := by kernel_rfl
theorem in7 : (opsOf (k 7)).all (opIn 98 (opsOf (k 7))) = true := by kernel_rfl
theorem in8 : (opsOf (k 8)).all (opIn 98 (opsOf (k 8))) = true := by kernel_rfl
theorem call6 : Callable Tryz.prog 6 := ⟨Tryz.f6, Tryz.func6, by kernel_rfl, by kernel_rfl⟩
/-- What the slice is before the calls. -/
def idOf : E → Go.Vm.Id
  | .sl id _ _ _ => id
  | _ => (1, 0)
noncomputable def idL (cs : List Go.Vm.P) : Go.Vm.Id := idOf ((t6 cs).env.get 9)
noncomputable def cellsL (cs : List Go.Vm.P) : List E := (lookD (t6 cs).heap (idL cs)).getD []
noncomputable def psL (cs : List Go.Vm.P) : List Go.Vm.P := (flatEs (cellsL cs)).getD []
variable (cs : List Go.Vm.P)
theorem e9 : (t6 cs).env.get 9 = .sl (idL cs) 2 0 2 := by kernel_rfl
theorem b9 : hOf (t6 cs).heap (idL cs) = some ⟨true, cellsL cs⟩ := by kernel_rfl
theorem idz : (idL cs).1 = 0 := by kernel_rfl
theorem fresh0 : lookB (t6 cs).heap (t6 cs).c = none := by kernel_rfl
theorem fresh1 : lookB (t6 cs).heap ((t6 cs).c + 1) = none := by kernel_rfl
def cF : Op → Operand
  | .call { callee := .value f, .. } => f
  | _ => .tmp 0
def cA : Op → Array Operand
  | .call { args, .. } => args
  | _ => #[]
def cT : Op → Array TypeId
  | .call { argTypes, .. } => argTypes
  | _ => #[]
/-- Link, evaluated before, at a list. -/
def linkR (ps : List Go.Vm.P) : E := gE ((q47 6).bind fun f => f [.p (.list 2 ps), .p (.int .i64 64)])
theorem linkR_spec {ps : List Go.Vm.P} (h : ((q47 6).bind fun f => f [.p (.list 2 ps), .p (.int .i64 64)]).isSome = true) (hr : (linkR ps).noRef = true) : Go.Vm.Spec Tryz.prog 6 noHeap [.p (.list 2 ps), .p (.int .i64 64)] fun _ r => r = linkR ps := by
  have h' := gE_some h
  rw [Option.bind_eq_some_iff] at h'
  obtain ⟨f, hf, hx⟩ := h'
  exact (qOk47.ok 6 f _ _ hf hx rfl hr).2
theorem AL_link {ops : Array Oper} {o : Oper} {l : List Oper} {K : St → Prop} {d : DS} {H : Heap} {n k0 : Nat → Nat} {ps : List Go.Vm.P} {x : E} (hd : dstIn o.dst = true) (hw : wantedE ops (mix d H n) o = some true)
    (hop : o.op = .call { callee := .value (cF o.op), args := cA o.op, argTypes := cT o.op }) (hf : (mix d H n).val (cF o.op) = .fn 6 []) (ha : callArgs (mix d H n) (cA o.op) [] = [x, .p (.int .i64 64)])
    (hx : Conv H (fun id => (linkR ps).scalar = true ∨ ∃ b, H id = some b ∧ b.excl = false) x (.p (.list 2 ps)))
    (h : ((q47 6).bind fun f => f [.p (.list 2 ps), .p (.int .i64 64)]).isSome = true) (hr : (linkR ps).noRef = true)
    (hn : AL Tryz.prog k0 ops K l (mix (d.put o.dst (linkR ps)) H n)) : AL Tryz.prog k0 ops K (o :: l) (mix d H n) := by
  rw [← mix_set hd] at hn
  refine AL.step (k := .r) (.qr hw ⟨_, _, _, 6, [], [.p (.list 2 ps), .p (.int .i64 64)], hop, hf, call6, ⟨by rw [ha]; rfl, fun j h1 h2 => ?_⟩, rfl, hr, linkR_spec h hr⟩) hn
  simp only [ha] at h1 ⊢
  match j, h1 with
  | 0, _ => exact hx
  | 1, _ => exact .refl _
noncomputable def H0 : Heap := hOf (t6 cs).heap
noncomputable def n0 : Nat → Nat := cOf (t6 cs).c
noncomputable def vw (d : DS) (H : Heap) (n : Nat → Nat) (o : Oper) : DS := d.put o.dst (gE (evalV Tryz.prog (mix d H n).val H o.op))
noncomputable def d1 : DS := vw (t6 cs) (H0 cs) (n0 cs) (op7 0)
noncomputable def H1 : Heap := updI (H0 cs) (idL cs) (some ⟨false, cellsL cs⟩)
noncomputable def d2 : DS := (d1 cs).put (some 42) (.p (.list 2 (psL cs)))
noncomputable def d3 : DS := (d2 cs).put (op7 1).dst (linkR (psL cs))
noncomputable def d4 : DS := vw (d3 cs) (H1 cs) (n0 cs) (op7 2)
noncomputable def d5 : DS := vw (d4 cs) (H1 cs) (n0 cs) (op7 3)
noncomputable def d6 : DS := vw (d5 cs) (H1 cs) (n0 cs) (op7 4)
noncomputable def d7 : DS := vw (d6 cs) (H1 cs) (n0 cs) (op7 5)
noncomputable def d8 : DS := vw (d7 cs) (H1 cs) (n0 cs) (op7 6)
theorem al7 {k0 : Nat → Nat} : AL Tryz.prog k0 (opsOf (k 7)) (fun s => s = mix (d8 cs) (H1 cs) (n0 cs)) (opsOf (k 7)).toList (mix (t6 cs) (H0 cs) (n0 cs)) := by
  rw [list7]
  refine AL_ev (by kernel_rfl) (by kernel_rfl) (by kernel_rfl) ?_
  refine AL_freeze (d := d1 cs) (t := 42) (id := idL cs) (ex := true) (sz := 2) (len := 2) (cells := cellsL cs) (ps := psL cs) (by decide) (by kernel_rfl) (b9 cs) (by kernel_rfl) (by decide) (by kernel_rfl) ?_
  refine AL_link (ps := psL cs) (d := d2 cs) (H := H1 cs) (by kernel_rfl) (by kernel_rfl) (by kernel_rfl) (by kernel_rfl) (by kernel_rfl) (.refl _) (by kernel_rfl) (by kernel_rfl) ?_
  refine AL_ev (d := d3 cs) (by kernel_rfl) (by kernel_rfl) (by kernel_rfl) ?_
  refine AL_ev (d := d4 cs) (by kernel_rfl) (by kernel_rfl) (by kernel_rfl) ?_
  refine AL_ev (d := d5 cs) (by kernel_rfl) (by kernel_rfl) (by kernel_rfl) ?_
  refine AL_ev (d := d6 cs) (by kernel_rfl) (by kernel_rfl) (by kernel_rfl) ?_
  refine AL_ev (d := d7 cs) (by kernel_rfl) (by kernel_rfl) (by kernel_rfl) ?_
  exact AL.nil rfl
theorem AL_new {ops : Array Oper} {o : Oper} {l : List Oper} {K : St → Prop} {d : DS} {H : Heap} {n k0 : Nat → Nat} {es : List E} {sz len : Nat} (hd : dstIn o.dst = true) (hw : wantedE ops (mix d H n) o = some true)
    (h : evalA Tryz.prog (mix d H n).val o.op = some (es, fun id => .sl id sz 0 len))
    (hn : AL Tryz.prog k0 ops K l (mix (d.put o.dst (.sl (0, n 0) sz 0 len)) (updI H (0, n 0) (some ⟨true, es⟩)) (upd n 0 (n 0 + 1)))) : AL Tryz.prog k0 ops K (o :: l) (mix d H n) := by
  rw [← mix_set hd] at hn
  exact AL.step (k := .a) (.a (nm := 0) hw h) hn
theorem AL_put {ops : Array Oper} {o : Oper} {l : List Oper} {K : St → Prop} {d : DS} {H H' : Heap} {n n' k0 : Nat → Nat} {e : E} (hd : dstIn o.dst = true) (hw : wantedE ops (mix d H n) o = some true)
    (h : evalW Tryz.prog 0 (mix d H n) o = some (St.set (mix d H' n') o.dst e)) (hn : AL Tryz.prog k0 ops K l (mix (d.put o.dst e) H' n')) : AL Tryz.prog k0 ops K (o :: l) (mix d H n) := by
  rw [← mix_set hd] at hn
  exact AL.step (k := .w) (.w (nm := 0) hw h) hn
noncomputable def g1 : DS := vw (d8 cs) (H1 cs) (n0 cs) (op8 0)
noncomputable def H2 : Heap := updI (H1 cs) (idL cs) (some ⟨false, cellsL cs⟩)
noncomputable def g2 : DS := (g1 cs).put (some 9) (.p (.list 2 (psL cs)))
noncomputable def g3 : DS := vw (g2 cs) (H2 cs) (n0 cs) (op8 1)
noncomputable def esB : List E := ((evalA Tryz.prog (mix (g3 cs) (H2 cs) (n0 cs)).val (op8 2).op).map (·.1)).getD []
noncomputable def g4 : DS := (g3 cs).put (op8 2).dst (.sl (0, n0 cs 0) 2 0 1)
noncomputable def H3 : Heap := updI (H2 cs) (0, n0 cs 0) (some ⟨true, esB cs⟩)
noncomputable def n1 : Nat → Nat := upd (n0 cs) 0 (n0 cs 0 + 1)
noncomputable def n2 : Nat → Nat := upd (n1 cs) 0 (n1 cs 0 + 1)
noncomputable def cellsN : List E := cellsL cs ++ esB cs
noncomputable def psN : List Go.Vm.P := (flatEs (cellsN cs)).getD []
noncomputable def H4 : Heap := updI (updI (H3 cs) (idL cs) none) (0, n1 cs 0) (some ⟨false, cellsN cs⟩)
noncomputable def g5 : DS := (g4 cs).put (op8 3).dst (.sl (0, n1 cs 0) 2 0 3)
noncomputable def g6 : DS := (g5 cs).put (op8 4).dst (linkR (psN cs))
noncomputable def g7 : DS := vw (g6 cs) (H4 cs) (n2 cs) (op8 5)
noncomputable def g8 : DS := vw (g7 cs) (H4 cs) (n2 cs) (op8 6)
noncomputable def g9 : DS := vw (g8 cs) (H4 cs) (n2 cs) (op8 7)
noncomputable def g10 : DS := vw (g9 cs) (H4 cs) (n2 cs) (op8 8)
noncomputable def g11 : DS := vw (g10 cs) (H4 cs) (n2 cs) (op8 9)
theorem al8 {k0 : Nat → Nat} : AL Tryz.prog k0 (opsOf (k 8)) (fun s => s = mix (g11 cs) (H4 cs) (n2 cs)) (opsOf (k 8)).toList (mix (d8 cs) (H1 cs) (n0 cs)) := by
  rw [list8]
  refine AL_ev (by kernel_rfl) (by kernel_rfl) (by kernel_rfl) ?_
  refine AL_freeze (d := g1 cs) (H := H1 cs) (t := 9) (id := idL cs) (ex := false) (sz := 2) (len := 2) (cells := cellsL cs) (ps := psL cs) (by decide) (by kernel_rfl) (by kernel_rfl) (by kernel_rfl) (by decide) (by kernel_rfl) ?_
  refine AL_ev (d := g2 cs) (H := H2 cs) (by kernel_rfl) (by kernel_rfl) (by kernel_rfl) ?_
  refine AL_new (d := g3 cs) (H := H2 cs) (es := esB cs) (sz := 2) (len := 1) (by kernel_rfl) (by kernel_rfl) (by kernel_rfl) ?_
  refine AL_put (d := g4 cs) (H := H3 cs) (n := n1 cs) (H' := H4 cs) (n' := n2 cs) (e := .sl (0, n1 cs 0) 2 0 3) (by kernel_rfl) (by kernel_rfl) (by kernel_rfl) ?_
  refine AL_link (ps := psN cs) (x := .sl (0, n1 cs 0) 2 0 3) (d := g5 cs) (H := H4 cs) (n := n2 cs) (by kernel_rfl) (by kernel_rfl) (by kernel_rfl) (by kernel_rfl) (by kernel_rfl)
    (conv_flat (blk := ⟨false, cellsN cs⟩) (by kernel_rfl) (.inr ⟨⟨false, cellsN cs⟩, by kernel_rfl, rfl⟩) (by kernel_rfl) (by decide) (by kernel_rfl)) (by kernel_rfl) (by kernel_rfl) ?_
  refine AL_ev (d := g6 cs) (H := H4 cs) (n := n2 cs) (by kernel_rfl) (by kernel_rfl) (by kernel_rfl) ?_
  refine AL_ev (d := g7 cs) (by kernel_rfl) (by kernel_rfl) (by kernel_rfl) ?_
  refine AL_ev (d := g8 cs) (by kernel_rfl) (by kernel_rfl) (by kernel_rfl) ?_
  refine AL_ev (d := g9 cs) (by kernel_rfl) (by kernel_rfl) (by kernel_rfl) ?_
  refine AL_ev (d := g10 cs) (by kernel_rfl) (by kernel_rfl) (by kernel_rfl) ?_
  exact AL.nil rfl
theorem n0z : n0 cs 0 = (t6 cs).c := by simp only [n0, cOf, if_true]
theorem n1z : n1 cs 0 = (t6 cs).c + 1 := by simp only [n1, upd, if_true, n0z]
/-- Behind both calls. -/
noncomputable def t8 : DS := ⟨(g11 cs).env, delB (t6 cs).heap (idL cs).2, (t6 cs).c + 2⟩
theorem t8env : (t8 cs).env = (g11 cs).env := by simp only [t8]
theorem t8heap : (t8 cs).heap = delB (t6 cs).heap (idL cs).2 := by simp only [t8]
theorem t8c : (t8 cs).c = (t6 cs).c + 2 := by simp only [t8]
theorem goes8 {k0 : Nat → Nat} : Goes k0 (mix (g11 cs) (H4 cs) (n2 cs)) (t8 cs).st := by
  refine Goes.weaken (fun t => .inl (by simp only [DS.st, mix, t8env])) (fun id b hb => ?_) (fun d => ?_)
  · have hb' : hOf (t8 cs).heap id = some b := hb
    rw [t8heap] at hb'
    rw [hOf_delB (id := idL cs) (idz cs)] at hb'
    simp only [updI] at hb'
    split at hb'
    · cases hb'
    rename_i hne
    have h0 : id.1 = 0 := by
      simp only [hOf] at hb'
      split at hb'
      · rename_i hz; exact hz
      · cases hb'
    have key : ∀ c, lookB (t6 cs).heap c = none → id ≠ (0, c) := by
      rintro c hc rfl
      simp [hOf, hc] at hb'
    rw [show (mix (g11 cs) (H4 cs) (n2 cs)).heap = H4 cs by simp only [mix]]
    have ha : id ≠ (0, n0 cs 0) := by rw [n0z]; exact key _ (fresh0 cs)
    have hc : id ≠ (0, n1 cs 0) := by rw [n1z]; exact key _ (fresh1 cs)
    simp only [H4, H3, H2, H1, H0, updI, if_neg hne, if_neg ha, if_neg hc]
    exact hb'
  · show n2 cs d ≤ cOf (t8 cs).c d
    rw [t8c]
    simp only [n2, n1, n0, upd, cOf]
    split
    · rename_i h; subst h; simp
    · simp_all
theorem mid {R : Code} {x : X} {s' : DS} (h : Runs Tryz.prog 98 R (t8 cs) x s') : Runs Tryz.prog 98 (.seq (k 7) (.seq (k 8) R)) (t6 cs) x s' := by
  have hext : Ext (t6 cs) (t8 cs) := by
    refine ⟨by rw [t8c]; exact Nat.le_add_right _ _, fun j hj => .inl ?_⟩
    have : lookB (t8 cs).heap j ≠ none := hj
    rw [t8heap] at this
    rw [lookB_delB] at this
    split at this
    · exact absurd rfl this
    · exact this
  refine ⟨hext.trans h.1, fun k0 => AWP.seq ?_⟩
  rw [shape7]
  refine AWP.region in7 (al7 cs) fun s hs => ?_
  subst hs
  refine AWP.seq ?_
  rw [shape8]
  refine AWP.region in8 (al8 cs) fun s hs => ?_
  subst hs
  exact AWP.ghost (goes8 cs) (h.2 k0)
noncomputable def t10 : DS := ev c10 (t8 cs)
end Go.Proofs.YtfjmcdacnhfacaaGreatDoor.Sc
