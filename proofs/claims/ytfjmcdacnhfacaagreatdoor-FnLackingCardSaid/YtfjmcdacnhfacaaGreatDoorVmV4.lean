/- The interpreter: functions, called with whatever is lent; and what follows where nothing is. No condition. -/
import Derived.Test.YtfjmcdacnhfacaaGreatDoorVmV3
set_option linter.all false
namespace Go.Vm
open Go

section
variable {h : Bs} {ok : Id → Prop} {c0 : Nat}

theorem ble_le {a b : Nat} (h : Nat.ble a b = true) : a ≤ b := Nat.le_of_ble_eq_true h

mutual
theorem plainN_conv (hok : ∀ id : Id, id.1 = 0 → c0 ≤ id.2 → ok id) : ∀ (f : Nat) (e : E) (x : P), plainN h c0 f e = some x → Conv (hOf h) ok e (.p x)
  | 0, e, x, he => by simp [plainN] at he
  | f + 1, .p y, x, he => by simp [plainN] at he; subst he; exact .refl _
  | f + 1, .nil, x, he => by simp [plainN] at he; subst he; exact .nil 0
  | f + 1, .sl id sz off len, x, he => by
    simp only [plainN] at he
    cases hb : Nat.ble c0 id.2 with
    | false => rw [hb] at he; cases he
    | true =>
      rw [hb] at he
      simp only [cond_true] at he
      split at he
      · rename_i cells hl
        split at he
        · rename_i hc
          simp only [Option.map_eq_some_iff] at he
          obtain ⟨xs, hx, rfl⟩ := he
          obtain ⟨g1, g2⟩ := plainNs_conv hok f _ xs hx
          have hlen : xs.length = len * sz := by rw [← g1]; simp; omega
          refine .sl (blk := ⟨true, cells⟩) (by rw [lookD_h, hl]; rfl) (hok id (lookD_zero hl).1 (ble_le hb)) hc.1 hc.2 hlen fun j h1 h2 => ?_
          have := g2 j (by rw [g1]; exact h1) h1
          simpa using this
        · cases he
      · cases he
  | f + 1, .agg cs, x, he => by
    simp only [plainN, Option.map_eq_some_iff] at he
    obtain ⟨xs, hx, rfl⟩ := he
    obtain ⟨g1, g2⟩ := plainNs_conv hok f cs xs hx
    exact .aggp g1 g2
  | f + 1, .ptr _ _, x, he => by simp [plainN] at he
  | f + 1, .pp _, x, he => by simp [plainN] at he
  | f + 1, .tup _, x, he => by simp [plainN] at he
  | f + 1, .fn _ _, x, he => by simp [plainN] at he
  | f + 1, .dead, x, he => by simp [plainN] at he
theorem plainNs_conv (hok : ∀ id : Id, id.1 = 0 → c0 ≤ id.2 → ok id) : ∀ (f : Nat) (es : List E) (xs : List P), plainNs h c0 f es = some xs → es.length = xs.length ∧ ∀ (j : Nat) (h1 : j < es.length) (h2 : j < xs.length), Conv (hOf h) ok es[j] (.p xs[j])
  | 0, es, xs, he => by simp [plainNs] at he
  | f + 1, [], xs, he => by simp [plainNs] at he; subst he; exact ⟨rfl, fun j h1 _ => by simp at h1⟩
  | f + 1, e :: r, xs, he => by
    simp only [plainNs] at he
    split at he
    · rename_i x ys hx hy
      injection he with he; subst he
      obtain ⟨g1, g2⟩ := plainNs_conv hok f r ys hy
      refine ⟨by simp [g1], fun j h1 h2 => ?_⟩
      cases j with
      | zero => exact plainN_conv hok f e x hx
      | succ j => exact g2 j (by simpa using h1) (by simpa using h2)
    · cases he
end

mutual
theorem outE_conv (hok : ∀ id : Id, id.1 = 0 → c0 ≤ id.2 → ok id) : ∀ (f : Nat) (e r : E), outE h c0 f e = some r → Conv (hOf h) ok e r
  | 0, e, r, he => by simp [outE] at he
  | f + 1, .sl id sz off len, r, he => by
    simp only [outE] at he
    cases hb : (Nat.ble c0 id.2 && Nat.beq id.1 0) with
    | false => rw [hb] at he; simp only [cond_false, Option.some.injEq] at he; subst he; exact .refl _
    | true =>
      rw [hb] at he
      simp only [cond_true, Option.map_eq_some_iff] at he
      obtain ⟨x, hx, rfl⟩ := he
      exact plainN_conv hok f _ x hx
  | f + 1, .agg cs, r, he => by
    simp only [outE] at he
    cases hb : noRefs cs with
    | true => rw [hb] at he; simp only [cond_true, Option.some.injEq] at he; subst he; exact .refl _
    | false =>
      rw [hb] at he
      simp only [cond_false, Option.map_eq_some_iff] at he
      obtain ⟨x, hx, rfl⟩ := he
      obtain ⟨g1, g2⟩ := outEs_conv hok f cs x hx
      exact .agg g1 g2
  | f + 1, .tup cs, r, he => by
    simp only [outE, Option.map_eq_some_iff] at he
    obtain ⟨x, hx, rfl⟩ := he
    obtain ⟨g1, g2⟩ := outEs_conv hok f cs x hx
    exact .tup g1 g2
  | f + 1, .fn g cs, r, he => by
    simp only [outE, Option.map_eq_some_iff] at he
    obtain ⟨x, hx, rfl⟩ := he
    obtain ⟨g1, g2⟩ := outEs_conv hok f cs x hx
    exact .fn g1 g2
  | f + 1, .ptr id off, r, he => by
    simp only [outE] at he
    cases hb : Nat.ble c0 id.2 with
    | true => rw [hb] at he; cases he
    | false => rw [hb] at he; simp only [cond_false, Option.some.injEq] at he; subst he; exact .refl _
  | f + 1, .p y, r, he => by simp [outE] at he; subst he; exact .refl _
  | f + 1, .nil, r, he => by simp [outE] at he; subst he; exact .refl _
  | f + 1, .pp _, r, he => by simp [outE] at he; subst he; exact .refl _
  | f + 1, .dead, r, he => by simp [outE] at he; subst he; exact .refl _
theorem outEs_conv (hok : ∀ id : Id, id.1 = 0 → c0 ≤ id.2 → ok id) : ∀ (f : Nat) (es rs : List E), outEs h c0 f es = some rs → es.length = rs.length ∧ ∀ (j : Nat) (h1 : j < es.length) (h2 : j < rs.length), Conv (hOf h) ok es[j] rs[j]
  | 0, es, xs, he => by simp [outEs] at he
  | f + 1, [], xs, he => by simp [outEs] at he; subst he; exact ⟨rfl, fun j h1 _ => by simp at h1⟩
  | f + 1, e :: r, xs, he => by
    simp only [outEs] at he
    split at he
    · rename_i x ys hx hy
      injection he with he; subst he
      obtain ⟨g1, g2⟩ := outEs_conv hok f r ys hy
      refine ⟨by simp [g1], fun j h1 h2 => ?_⟩
      cases j with
      | zero => exact outE_conv hok f e x hx
      | succ j => exact g2 j (by simpa using h1) (by simpa using h2)
    · cases he
end
end

theorem setAll_get : ∀ (l : List E) (k : Nat) (t : Tr) (m : Nat), k + l.length < 1000000 → (setAll k l t).get m = if k ≤ m ∧ m < k + l.length then l.getD (m - k) .dead else t.get m
  | [], k, t, m, h => by simp only [setAll, List.length_nil, Nat.add_zero]; rw [if_neg (by omega)]
  | e :: l, k, t, m, h => by
    simp only [List.length_cons] at h
    have h2 : (2 : Nat) ^ 20 = 1048576 := by decide
    simp only [setAll]
    rw [setAll_get l (k + 1) _ m (by omega), Tr.get_set 20 t k e m (by omega)]
    simp only [List.length_cons]
    by_cases hm : m = k
    · subst hm; rw [if_neg (by omega), if_pos rfl, if_pos (by omega)]; simp
    · by_cases h3 : k + 1 ≤ m ∧ m < k + 1 + l.length
      · rw [if_pos h3, if_pos (by omega)]
        have : m - k = (m - (k + 1)) + 1 := by omega
        rw [this]; rfl
      · rw [if_neg h3, if_neg hm, if_neg (by omega)]

structure PrimOk (P : Program) (prim : PrimD) : Prop where
  ok : ∀ (g : FuncId) (f : List E → Option E) (xs : List E) (r : E), prim g = some f → f xs = some r → noRefs xs = true → r.noRef = true → Callable P g ∧ Spec P g noHeap xs fun _ r' => r' = r

theorem prim_specAt {P : Program} {g : FuncId} {h : Bs} {c : Nat} {args xs : List E} {r : E} (hconv : ConvL (hOf h) (fun id => r.scalar = true ∨ ∃ b, hOf h id = some b ∧ b.excl = false) args xs) (hx : noRefs xs = true) (hr : r.noRef = true) (hs : r.scalar = true ∨ args = xs)
    (hspec : Spec P g noHeap xs fun _ r' => r' = r) : SpecAt P g (hOf h) args (fun h1 cnt' r' => h1 = hOf h ∧ cnt' = cOf c ∧ r' = r) (cOf c) := by
  intro w A φ cs hh hex hsz hrep
  generalize hC : ctxOf w A (hOf h) φ (cOf c) = C at *
  have hw0 : C.w0 = w := by rw [← hC]; rfl
  have hlent : ∀ b, C.lent b ↔ lentOf (hOf h) φ b := fun b => by rw [← hC]; exact Iff.rfl
  have hsim : SimAt C ⟨fun _ => .dead, hOf h, cOf c⟩ φ ⟨#[undef], []⟩ w := by
    refine ⟨hh, fun t ht => .dead _, fun b _ _ => by rw [hw0], by rw [hw0]; exact Nat.le_refl _, fun b hb' => ?_, fun b arr T fr hb' => ⟨arr, fr, by rw [← hw0]; exact hb', rfl⟩, fun d => by rw [← hC]; exact Nat.le_refl _, fun id _ => by rw [← hC]; rfl, rfl, by rw [hw0]; exact .refl⟩
    obtain ⟨id, blk, g1, rfl⟩ := (hlent b).1 hb'
    obtain ⟨_, _, arr, T, fr, r1, _⟩ := hh.blk id blk g1
    rw [hw0]; exact lt_of_row r1
  have fin : ∀ B : Nat → Nat → Prop, ((B = Ok C (hOf h) φ) ∨ r.scalar = true) → (∀ b i, Ok C (hOf h) φ b i → B b i) → (∀ (j : Nat) (hj : j < xs.length), RepE (cOf c) φ B w (at_ cs j) xs[j]) →
      Calls P g cs w fun (e : Ending) (w' : World) => ∃ (v : Value) (cnt' : Nat → Nat) (φ' : Id → Nat × Nat) (h1 : Heap) (r' : E), e = .returned v ∧ (h1 = hOf h ∧ cnt' = cOf c ∧ r' = r) ∧ (∀ d, cOf c d ≤ cnt' d) ∧ (∀ id : Id, id.2 < cOf c id.1 → φ' id = φ id) ∧
      HRel C.own (Ok C h1 φ') h1 cnt' φ' w' ∧ RepE cnt' φ' (Ok C h1 φ') w' v r' ∧
      (∀ b, b < w.heap.size → ¬ lentOf (hOf h) φ b → w'.heap[b]? = w.heap[b]?) ∧ w.heap.size ≤ w'.heap.size ∧
      (∀ (b : Nat) (arr : Array Value) (T : TypeId) (fr : Nat × Nat), w.heap[b]? = some (Obj.cells arr T fr) → ∃ (arr' : Array Value) (fr' : Nat × Nat), w'.heap[b]? = some (Obj.cells arr' T fr') ∧ arr'.size = arr.size) ∧
      (∀ id blk, h1 id = some blk → (∃ blk0, hOf h id = some blk0) ∨ cOf c id.1 ≤ id.2) ∧ SameOut w w' := by
    intro B hB hsubB hxs
    refine (callQ_run hsim hB hxs (by rw [hsz]; exact hconv.1) (noRefs_get hx) hr hspec (some 0)).mono ?_
    rintro e w' ⟨v, rfl, hs'⟩
    have hv := hs'.slots 0 (by simp [Act.put])
    refine ⟨v, cOf c, φ, hOf h, r, rfl, ⟨rfl, rfl, rfl⟩, fun _ => Nat.le_refl _, fun _ _ => rfl, hs'.heap, ?_, fun b hb hl => ?_, ?_, fun b arr T fr hb => ?_, fun id blk hb => .inl ⟨blk, hb⟩, by have := hs'.out; rw [hw0] at this; exact this⟩
    · have e1 : at_ (Act.put ⟨#[undef], []⟩ (some 0) v).tmps 0 = v := by simp [Act.put, at_]
      have e2 : (St.set ⟨fun _ => .dead, hOf h, cOf c⟩ (some 0) r).env 0 = r := by simp [St.set, upd]
      rw [e1, e2] at hv
      exact hv
    · have := hs'.low b (by rw [hw0]; exact hb) (fun q => hl ((hlent b).1 q))
      rw [hw0] at this; exact this
    · have := hs'.grew; rw [hw0] at this; exact this
    · exact hs'.rows b arr T fr (by rw [hw0]; exact hb)
  have hxs : ∀ B : Nat → Nat → Prop, (∀ b i, Ok C (hOf h) φ b i → B b i) → (∀ id blk, (r.scalar = true ∨ ∃ b, hOf h id = some b ∧ b.excl = false) → hOf h id = some blk → ∀ j, j < blk.cells.length → B (φ id).1 ((φ id).2 + j)) →
      ∀ (j : Nat) (hj : j < xs.length), RepE (cOf c) φ B w (at_ cs j) xs[j] := fun B hsubB hokB j hj =>
    (hconv.2 j (by rw [hconv.1]; exact hj) hj).rep hh hsubB hokB (hrep j (by rw [hconv.1]; exact hj))
  by_cases hsc : r.scalar = true
  · exact fin (fun _ _ => True) (.inr hsc) (fun _ _ _ => trivial) (hxs _ (fun _ _ _ => trivial) fun _ _ _ _ _ _ => trivial)
  · refine fin (Ok C (hOf h) φ) (.inl rfl) (fun _ _ q => q) fun j hj => ?_
    have hax := hs.resolve_left hsc
    subst hax
    exact hrep j hj

def progIn (P : Program) : Bool :=
  P.funcs.toList.all fun fn => !(fn.name == "runtime.NumGoroutine") && match fn.body with
    | some b => codeIn fn.ntmps b && decide (fn.ntmps < 1000000)
    | none => true

theorem callD_ok {P : Program} (hm : P.follows .mixedOrders = true) (hp : progIn P = true) {prim : PrimD} (hpr : PrimOk P prim) (keep : FuncId → Bool) (F : Nat) : ∀ d, CallOk P (callD P prim keep F d)
  | 0 => ⟨fun g args h c r h' c' he => by simp [callD] at he⟩
  | d + 1 => by
    have ih := callD_ok hm hp hpr keep F d
    refine ⟨fun g args h c r h' c' he => ?_⟩
    simp only [callD] at he
    split at he
    · rename_i r0 hf0
      simp only [Option.bind_eq_some_iff] at hf0
      obtain ⟨f, hf, hq⟩ := hf0
      simp only [Option.some.injEq, Prod.mk.injEq] at he
      obtain ⟨rfl, rfl, rfl⟩ := he
      unfold primQ at hq
      cases hn : noRefs args with
      | true =>
        rw [hn] at hq
        simp only [cond_true] at hq
        split at hq
        · rename_i r1 hr1
          cases hb : r1.noRef with
          | false => rw [hb] at hq; cases hq
          | true =>
            rw [hb] at hq
            simp only [cond_true, Option.some.injEq] at hq
            subst hq
            obtain ⟨c1, c2⟩ := hpr.ok g f args r1 hf hr1 hn hb
            exact ⟨c1, Nat.le_refl _, fun k hk => .inl hk, prim_specAt ⟨rfl, fun j _ _ => .refl _⟩ hn hb (.inr rfl) c2⟩
        · cases hq
      | false =>
        rw [hn] at hq
        simp only [cond_false] at hq
        split at hq
        · rename_i xs hxs
          split at hq
          · rename_i r1 hr1
            cases hb : (r1.noRef && r1.scalar && noRefs xs) with
            | false => rw [hb] at hq; cases hq
            | true =>
              rw [hb] at hq
              simp only [cond_true, Option.some.injEq] at hq
              subst hq
              simp only [Bool.and_eq_true] at hb
              obtain ⟨c1, c2⟩ := hpr.ok g f xs r1 hf hr1 hb.2 hb.1.1
              exact ⟨c1, Nat.le_refl _, fun k hk => .inl hk, prim_specAt (mapM_conv (fun id => .inl hb.1.2) hxs) hb.2 hb.1.1 (.inl hb.1.2) c2⟩
          · cases hq
        · cases hq
    split at he
    rotate_left
    · cases he
    rename_i fn hfn
    split at he
    rotate_left
    · cases he
    rename_i body hbody
    have hpf : (!(fn.name == "runtime.NumGoroutine") && match fn.body with
        | some b => codeIn fn.ntmps b && decide (fn.ntmps < 1000000)
        | none => true) = true := by
      have := List.all_eq_true.1 hp fn (by simpa using Array.mem_of_getElem? hfn)
      exact this
    simp only [hbody, Bool.and_eq_true, Bool.not_eq_true', decide_eq_true_eq] at hpf
    obtain ⟨hname, hcode, hnt⟩ := hpf
    have hcallable : Callable P g := ⟨fn, hfn, hname, by rw [hbody]; rfl⟩
    cases hble : Nat.ble args.length fn.ntmps with
    | false => rw [hble] at he; cases he
    | true =>
    have hargs : args.length ≤ fn.ntmps := ble_le hble
    rw [hble] at he
    simp only [cond_true] at he
    have hst : (DS.st ⟨setAll 0 args .leaf, h, c⟩) = ⟨fun t => args.getD t .dead, hOf h, cOf c⟩ := by
      simp only [DS.st]
      congr 1
      funext t
      rw [setAll_get args 0 .leaf t (by omega)]
      by_cases ht : t < args.length
      · simp [ht]
      · simp [ht, Tr.get]
    have main : ∀ (x : X) (s : DS), (x = .norm ∨ x = .ret) → codeD P (callD P prim keep F d) fn.ntmps F body ⟨setAll 0 args .leaf, h, c⟩ = some (x, s) →
        ∀ e, resultE P fn s.st fn.ntmps = some e → ∀ (h1 : Bs), (∀ k b, lookB h1 k = some b → lookB s.heap k = some b) → Conv s.st.heap (fun id => hOf h1 id = none ∨ ∃ b, hOf h1 id = some b ∧ b.excl = false) e r →
        Callable P g ∧ c ≤ s.c ∧ (∀ k, lookB h1 k ≠ none → lookB h k ≠ none ∨ c ≤ k) ∧ SpecAt P g (hOf h) args (fun h2 cnt' r' => h2 = hOf h1 ∧ cnt' = cOf s.c ∧ r' = r) (cOf c) := by
      intro x s hx hcd e hre h1 hsub hconv
      obtain ⟨e1, g1⟩ := (codeD_both hm ih F).1 body _ s x hcode hcd
      have hids : ∀ k, lookB h1 k ≠ none → lookB h k ≠ none ∨ c ≤ k := fun k hk => by
        cases hl : lookB h1 k with
        | none => exact absurd hl hk
        | some b => exact e1.2 k (by rw [hsub k b hl]; simp)
      refine ⟨hcallable, e1.1, hids, ?_⟩
      refine SpecAt.of_body hfn hbody rfl hargs fun _ => ?_
      rw [← hst]
      refine (g1 (cOf c)).mono ?_
      rintro ex s2 ⟨rfl, rfl⟩
      have hends : Ends P fn fn.ntmps (hOf h) (cOf c) (fun h2 cnt' r' => h2 = hOf h1 ∧ cnt' = cOf s.c ∧ r' = r) s.st := by
        refine ⟨e, hOf h1, r, hre, fun id b hb => ?_, fun id b hb => ?_, hconv, rfl, rfl, rfl⟩
        · simp only [hOf] at hb
          split at hb
          · rename_i h0
            simp only [Option.map_eq_some_iff] at hb
            obtain ⟨b1, hb1, rfl⟩ := hb
            refine ⟨⟨true, b1⟩, ?_, rfl, fun _ => rfl⟩
            show hOf s.heap id = _
            simp only [hOf, if_pos h0, hsub _ _ hb1, Option.map_some]
          · cases hb
        · simp only [hOf] at hb
          split at hb
          · rename_i h0
            simp only [Option.map_eq_some_iff] at hb
            obtain ⟨b1, hb1, rfl⟩ := hb
            rcases hids id.2 (by rw [hb1]; simp) with g | g
            · left
              cases hl : lookB h id.2 with
              | none => exact absurd hl g
              | some b2 => exact ⟨⟨true, b2⟩, by simp only [hOf, if_pos h0, hl, Option.map_some]⟩
            · right; simp only [cOf, if_pos h0]; exact g
          · cases hb
      rcases hx with rfl | rfl
      · exact hends
      · exact hends
    have fin : ∀ (x : X) (s : DS), (x = .norm ∨ x = .ret) → codeD P (callD P prim keep F d) fn.ntmps F body ⟨setAll 0 args .leaf, h, c⟩ = some (x, s) →
        (match resultE P fn s.st fn.ntmps with
          | some e =>
            bif keep g || args.any isPtr then some (e, s.heap, s.c)
            else match outE s.heap c 1000000 e with
              | some r => some (r, oldB s.heap c, s.c)
              | none => some (e, s.heap, s.c)
          | none => none) = some (r, h', c') →
        Callable P g ∧ c ≤ c' ∧ (∀ k, lookB h' k ≠ none → lookB h k ≠ none ∨ c ≤ k) ∧ SpecAt P g (hOf h) args (fun h1 cnt' r' => h1 = hOf h' ∧ cnt' = cOf c' ∧ r' = r) (cOf c) := by
      intro x s hx hcd he
      split at he
      rotate_left
      · cases he
      rename_i e hre
      cases hk : keep g || args.any isPtr with
      | true =>
        rw [hk] at he
        simp only [cond_true, Option.some.injEq, Prod.mk.injEq] at he
        obtain ⟨rfl, rfl, rfl⟩ := he
        exact main x s hx hcd e hre s.heap (fun _ _ q => q) (.refl _)
      | false =>
        rw [hk] at he
        simp only [cond_false] at he
        split at he
        rotate_left
        · simp only [Option.some.injEq, Prod.mk.injEq] at he
          obtain ⟨rfl, rfl, rfl⟩ := he
          exact main x s hx hcd e hre s.heap (fun _ _ q => q) (.refl _)
        rename_i r1 hr1
        simp only [Option.some.injEq, Prod.mk.injEq] at he
        obtain ⟨rfl, rfl, rfl⟩ := he
        refine main x s hx hcd e hre (oldB s.heap c) (fun k b hb => ?_) (outE_conv (fun id h0 hge => .inl ?_) _ _ _ hr1)
        · rw [lookB_oldB] at hb
          split at hb
          · exact hb
          · cases hb
        · simp only [hOf, if_pos h0, lookB_oldB, if_neg (Nat.not_lt.2 hge), Option.map_none]
    split at he
    · cases he
    · rename_i x s hne hcd
      refine fin x s ?_ hcd he
      cases x with
      | norm => exact .inl rfl
      | ret => exact .inr rfl
      | ex id => exact absurd rfl (hne id)
    · cases he

/-- A call that is lent nothing, evaluated. -/
theorem callD_spec {P : Program} (hm : P.follows .mixedOrders = true) (hp : progIn P = true) {prim : PrimD} (hpr : PrimOk P prim) {keep : FuncId → Bool} {F d : Nat} {g : FuncId} {args : List E} {r : E} {c' : Nat} (hx : noRefs args = true) (hr : r.noRef = true)
    (h : callD P prim keep F d g args [] 0 = some (r, [], c')) : Spec P g noHeap args fun h1 r' => h1 = noHeap ∧ r' = r := by
  obtain ⟨_, _, _, c4⟩ := (callD_ok hm hp hpr keep F d).ok _ _ _ _ _ _ _ h
  rw [hOf_nil, cOf_zero] at c4
  exact Spec.of_zero hx (fun h1 r' hq => ⟨hq.1, by rw [hq.2]; exact hr⟩) (c4.mono fun h1 c r' hq => ⟨hq.1, hq.2.2⟩)

end Go.Vm
