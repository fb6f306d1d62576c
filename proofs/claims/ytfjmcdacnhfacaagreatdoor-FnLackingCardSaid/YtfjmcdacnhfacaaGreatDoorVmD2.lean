/- The machine gives what the quiet operations give over slot values: operators, slices, conversions; all of evalS. No condition. -/
import Derived.Test.YtfjmcdacnhfacaaGreatDoorVmD
import Derived.Laws.StructEq
import Derived.Laws.Small
set_option linter.all false
namespace Go.Vm
open Go

section
variable {P : Program} {cnt : Nat → Nat} {φ : Id → Nat × Nat} {A : Nat → Nat → Prop} {w : World}

theorem intB_gives {op : BinOp} {t : TypeId} {k : IntKind} {a b : Int} {r : Vm.P} (h1 : op ≠ .shl) (h2 : op ≠ .shr) (h : intB op k a b = some r) :
    ∃ v, (binOp op t (.int k a) (.int k b)).run P w = .ok v w ∧ RepP A w v r := by
  cases op
  case shl => exact absurd rfl h1
  case shr => exact absurd rfl h2
  case quo => simp [intB] at h; obtain ⟨h0, rfl⟩ := h; exact ⟨_, by simp [binOp, Op.intDiv, h0], .int _ _⟩
  case rem => simp [intB] at h; obtain ⟨h0, rfl⟩ := h; exact ⟨_, by simp [binOp, Op.intDiv, h0], .int _ _⟩
  all_goals (injection h with h; subst h)
  case add => exact ⟨_, by simp [binOp, Op.intArith], .int _ _⟩
  case sub => exact ⟨_, by simp [binOp, Op.intArith], .int _ _⟩
  case mul => exact ⟨_, by simp [binOp, Op.intArith], .int _ _⟩
  case and => exact ⟨.int k _, by simp [binOp, Op.intBits], .int _ _⟩
  case or => exact ⟨.int k _, by simp [binOp, Op.intBits], .int _ _⟩
  case xor => exact ⟨.int k _, by simp [binOp, Op.intBits], .int _ _⟩
  case andNot => exact ⟨.int k _, by simp [binOp, Op.intBits], .int _ _⟩
  case eql => exact ⟨.bool (a == b), by simp [binOp, Op.intCmp], .bool _⟩
  case neq => exact ⟨.bool (a != b), by simp [binOp, Op.intCmp], .bool _⟩
  case lss => exact ⟨_, by simp [binOp, Op.intCmp], .bool _⟩
  case leq => exact ⟨_, by simp [binOp, Op.intCmp], .bool _⟩
  case gtr => exact ⟨_, by simp [binOp, Op.intCmp], .bool _⟩
  case geq => exact ⟨_, by simp [binOp, Op.intCmp], .bool _⟩

theorem bytes_toList (l : List UInt8) : (⟨l.toArray⟩ : ByteArray).toList = l := by rw [ByteArray.toList_eq]

theorem strB_gives {op : BinOp} {t : TypeId} {a b : List UInt8} {r : Vm.P} (h : strB op a b = some r) :
    ∃ v, (binOp op t (.string ⟨a.toArray⟩) (.string ⟨b.toArray⟩)).run P w = .ok v w ∧ RepP A w v r := by
  have e1 : ∀ x y : List UInt8, (x == y) = decide (x = y) := fun x y => by rw [Bool.eq_iff_iff]; simp
  have e2 := Go.Proofs.bytesLess_eq
  cases op
  case add =>
    simp [strB] at h; obtain ⟨h0, rfl⟩ := h
    refine ⟨.string (⟨a.toArray⟩ ++ ⟨b.toArray⟩), ?_, ?_⟩
    · have : ¬ (9223372036854775807 : Int) < ((⟨a.toArray⟩ : ByteArray).size : Int) + ((⟨b.toArray⟩ : ByteArray).size : Int) := by simp only [string_size]; omega
      simp [binOp, Op.stringOp, IntKind.max, IntKind.signed, IntKind.bits, this]
    · have : (⟨a.toArray⟩ ++ ⟨b.toArray⟩ : ByteArray) = ⟨(a ++ b).toArray⟩ := by
        apply ByteArray.ext; simp
      rw [this]; exact .str _
  all_goals first
    | (cases h; done)
    | (injection h with h; subst h)
  case eql => exact ⟨.bool _, by simp only [binOp, Op.stringOp, bytes_toList, e1, Sem.run_pure], .bool _⟩
  case neq => exact ⟨.bool (!decide (a = b)), by simp only [binOp, Op.stringOp, bytes_toList, e1, Sem.run_pure], by simpa using RepP.bool (A := A) (w := w) (!decide (a = b))⟩
  case lss => exact ⟨.bool _, by simp only [binOp, Op.stringOp, bytes_toList, e2, Sem.run_pure], .bool _⟩
  case leq => exact ⟨.bool _, by simp only [binOp, Op.stringOp, bytes_toList, e2, e1, Sem.run_pure], .bool _⟩
  case gtr => exact ⟨.bool _, by simp only [binOp, Op.stringOp, bytes_toList, e2, e1, Sem.run_pure], .bool _⟩
  case geq => exact ⟨.bool _, by simp only [binOp, Op.stringOp, bytes_toList, e2, Sem.run_pure], .bool _⟩

theorem eqFields_cells {d : Nat} {xs ys : Array Value} : ∀ (fs : List Field) (ks : List FK) (i : Nat) (a b : List Vm.P) (r : Bool),
    fieldKinds P fs i = some ks → i + a.length ≤ xs.size → i + b.length ≤ ys.size →
    (∀ (j : Nat) (h : j < a.length), RepP A w (at_ xs (i + j)) a[j]) → (∀ (j : Nat) (h : j < b.length), RepP A w (at_ ys (i + j)) b[j]) →
    cellsEq ks a b = some r → (Op.eqFields (d + 1) xs ys fs).run P w = .ok r w
  | [], ks, i, a, b, r, hk, _, _, _, _, hr => by
    simp [fieldKinds] at hk; subst hk
    have : r = true := by
      unfold cellsEq at hr
      split at hr <;> first | (injection hr with hr; exact hr.symm) | (rename_i h _ _; cases h; done) | (cases hr; done) | (simp at *)
    subst this
    simp [Op.eqFields]
  | f :: fs, ks0, i, a0, b0, r, hk, hx, hy, ha, hb, hr => by
    simp only [fieldKinds, Option.bind_eq_some_iff, Option.map_eq_some_iff] at hk
    obtain ⟨k, hk0, ks, hks, rfl⟩ := hk
    have step : ∀ (a b : List Vm.P) (x y : Vm.P), a0 = x :: a → b0 = y :: b → ∀ (e s : Bool), (Op.equalIn (d + 1) f.type (at_ xs i) (at_ ys i)).run P w = .ok e w → cellsEq ks a b = some s →
        (Op.eqFields (d + 1) xs ys (f :: fs)).run P w = .ok (e && s) w := by
      rintro a b x y rfl rfl e s he hs'
      simp only [List.length_cons] at hx hy
      unfold fieldKind at hk0
      split at hk0
      · rename_i hc
        obtain ⟨hn, ho, hs⟩ := hc
        have hagg : tAgg P f.type = some false := by
          unfold tAgg
          split at hk0 <;> first | (rename_i h; simp [h]; done) | cases hk0
        have hxs : xs[i]? = some (at_ xs i) := by simp [at_, show i < xs.size by omega]
        have hys : ys[i]? = some (at_ ys i) := by simp [at_, show i < ys.size by omega]
        have hpx : (part f.type xs f.offset).run P w = .ok (at_ xs i) w := by simp only [part, Sem.run_bind, isAgg_run hagg, Result.andThen_ok, Bool.false_eq_true, if_false, ho, hxs, Sem.run_pure]
        have hpy : (part f.type ys f.offset).run P w = .ok (at_ ys i) w := by simp only [part, Sem.run_bind, isAgg_run hagg, Result.andThen_ok, Bool.false_eq_true, if_false, ho, hys, Sem.run_pure]
        have ih := eqFields_cells (d := d) (xs := xs) (ys := ys) fs ks (i + 1) a b s hks (by omega) (by omega)
          (fun j hj => by have := ha (j + 1) (by simp; omega); simpa [Nat.add_assoc, Nat.add_comm 1 j] using this)
          (fun j hj => by have := hb (j + 1) (by simp; omega); simpa [Nat.add_assoc, Nat.add_comm 1 j] using this) hs'
        rw [Op.eqFields]
        simp only [if_pos hn, Sem.run_bind, hpx, hpy, he, Result.andThen_ok]
        cases e
        · simp
        · simpa using ih
      · cases hk0
    have kind : (k = .int → ∃ q, P.underlying f.type = some (.int q)) ∧ (k = .str → P.underlying f.type = some .string) ∧ (k = .bool → P.underlying f.type = some .bool) := by
      unfold fieldKind at hk0
      split at hk0
      · split at hk0 <;> first
          | (injection hk0 with hk0; subst hk0; simp_all; done)
          | cases hk0
      · cases hk0
    unfold cellsEq at hr
    split at hr
    · rename_i h; cases h
    · rename_i _ k1 a a1 k2 b b1 hkk
      injection hkk with h1 h2; subst h1; subst h2
      obtain ⟨q, hq⟩ := kind.1 rfl
      split at hr
      · rename_i hkk2; subst hkk2
        simp only [Option.map_eq_some_iff] at hr
        obtain ⟨s, hs', rfl⟩ := hr
        refine step _ _ _ _ rfl rfl _ s ?_ hs'
        have h1 := ha 0 (by simp)
        have h2 := hb 0 (by simp)
        simp only [Nat.add_zero, List.getElem_cons_zero] at h1 h2
        generalize at_ xs i = cx at *
        generalize at_ ys i = cy at *
        cases h1; cases h2
        exact run_equalIn_int (P := P) w d f.type _ q _ _ hq
      · cases hr
    · rename_i _ a a1 b b1 hkk
      injection hkk with h1 h2; subst h1; subst h2
      simp only [Option.map_eq_some_iff] at hr
      obtain ⟨s, hs', rfl⟩ := hr
      refine step _ _ _ _ rfl rfl _ s ?_ hs'
      have h1 := ha 0 (by simp)
      have h2 := hb 0 (by simp)
      simp only [Nat.add_zero, List.getElem_cons_zero] at h1 h2
      generalize at_ xs i = cx at *
      generalize at_ ys i = cy at *
      cases h1; cases h2
      rw [run_equalIn_string (P := P) w d f.type _ _ (kind.2.1 rfl), bytes_toList, bytes_toList]
      congr 1; rw [Bool.eq_iff_iff]; simp
    · rename_i _ a a1 b b1 hkk
      injection hkk with h1 h2; subst h1; subst h2
      simp only [Option.map_eq_some_iff] at hr
      obtain ⟨s, hs', rfl⟩ := hr
      refine step _ _ _ _ rfl rfl _ s ?_ hs'
      have h1 := ha 0 (by simp)
      have h2 := hb 0 (by simp)
      simp only [Nat.add_zero, List.getElem_cons_zero] at h1 h2
      generalize at_ xs i = cx at *
      generalize at_ ys i = cy at *
      cases h1; cases h2
      rw [run_equalIn_bool' (P := P) w d f.type _ _ (kind.2.2 rfl)]
      congr 1
    · cases hr

/-- What an operation gives, its world kept. -/
def OpGives (P : Program) (cnt : Nat → Nat) (φ : Id → Nat × Nat) (A : Nat → Nat → Prop) (w : World) (ρ : Operand → Value) (o : Oper) (e : E) : Prop :=
  ∃ v, (execOp ρ o).run P w = .ok (.value v) w ∧ RepE cnt φ A w v e

theorem Gives.op {m : Sem Value} {e : E} (h : Gives P cnt φ A w m e) {ρ : Operand → Value} {o : Oper} (ho : execOp ρ o = do pure (.value (← m))) : OpGives P cnt φ A w ρ o e := by
  obtain ⟨v, h1, h2⟩ := h
  exact ⟨v, by rw [ho]; simp [h1], h2⟩

theorem binE_gives {op : BinOp} {t : TypeId} {cx cy : Value} {x y : E} {X Y : Operand} {e : E} (hx : RepE cnt φ A w cx x) (hy : RepE cnt φ A w cy y) (he : binE P op t x y = some e) :
    Gives P cnt φ A w (do eqGuard op t X Y cx cy; binOp op t cx cy) e := by
  unfold binE at he
  split at he
  · rename_i k a k' b
    cases hx with
    | p hx =>
    cases hy with
    | p hy =>
    cases hx; cases hy
    have hg : (eqGuard op t X Y (.int k a) (.int k' b)).run P w = .ok () w := by unfold eqGuard; simp only []; split <;> simp
    have hb : ∀ v, (binOp op t (.int k a) (.int k' b)).run P w = .ok v w → (do eqGuard op t X Y (.int k a) (.int k' b); binOp op t (.int k a) (.int k' b) : Sem Value).run P w = .ok v w := by
      intro v hv; simp [hg, hv]
    split at he
    · rename_i h1; subst h1
      split at he
      · cases he
      · rename_i h0
        injection he with he; subst he
        exact ⟨_, hb _ (by simp [binOp, Op.shift, h0]), .p (.int _ _)⟩
    · split at he
      · rename_i h1 h2; subst h2
        split at he
        · cases he
        · rename_i h0
          injection he with he; subst he
          exact ⟨_, hb _ (by simp [binOp, Op.shift, h0]), .p (.int _ _)⟩
      · rename_i h1 h2
        split at he
        · rename_i hk; subst hk
          simp only [Option.map_eq_some_iff] at he
          obtain ⟨r, hr, rfl⟩ := he
          obtain ⟨v, hv, hv2⟩ := intB_gives (P := P) (A := A) (w := w) (t := t) h1 h2 hr
          exact ⟨v, hb v hv, .p hv2⟩
        · cases he
  · rename_i a b
    cases hx with
    | p hx =>
    cases hy with
    | p hy =>
    cases hx; cases hy
    simp only [Option.map_eq_some_iff] at he
    obtain ⟨r, hr, rfl⟩ := he
    obtain ⟨v, hv, hv2⟩ := strB_gives (P := P) (A := A) (w := w) (t := t) hr
    refine ⟨v, ?_, .p hv2⟩
    have hg : (eqGuard op t X Y (.string ⟨a.toArray⟩) (.string ⟨b.toArray⟩)).run P w = .ok () w := by unfold eqGuard; simp only []; split <;> simp
    simp [hg, hv]
  · rename_i a b
    split at he
    · rename_i ht
      have hu := tBool_spec ht
      cases hx with
      | p hx =>
      cases hy with
      | p hy =>
      cases hx; cases hy
      have hg : (eqGuard op t X Y (.bool a) (.bool b)).run P w = .ok () w := by unfold eqGuard; simp only []; split <;> simp
      have he2 := run_equal_bool (P := P) w t a b hu
      split at he
      · injection he with he; subst he
        exact ⟨.bool (a == b), by simp [hg, binOp, he2], .p (.bool _)⟩
      · injection he with he; subst he
        exact ⟨.bool (!(a == b)), by simp [hg, binOp, he2], .p (.bool _)⟩
      · cases he
    · cases he
  · rename_i a b
    split at he
    · rename_i ks hks
      unfold tFlat at hks
      split at hks
      · rename_i fs hu
        split at hks
        · rename_i hc
          cases hx with
          | p hx =>
          cases hy with
          | p hy =>
          cases hx with
          | agg hsx hox hcx =>
          cases hy with
          | agg hsy hoy hcy =>
          rename_i xs ys
          have hf : P.fieldsOf t = fs := by simp [Program.fieldsOf, hu]
          have heq : ∀ r, cellsEq ks a b = some r → (Op.equalIn 10000 t (.agg xs) (.agg ys)).run P w = .ok r w := by
            intro r hr
            rw [run_equalIn_struct (P := P) w 9999 t xs ys (by rw [hf]; exact hu) hc.2, hf]
            exact eqFields_cells (d := 9998) fs.toList ks 0 a b r hks (by omega) (by omega) (fun j hj => by simpa using hcx j hj) (fun j hj => by simpa using hcy j hj) hr
          have hg : ∀ (op : BinOp), (eqGuard op t X Y (.agg xs) (.agg ys)).run P w = .ok () w := by
            intro op; unfold eqGuard; simp only []; split <;> simp [hc.1]
          split at he
          · simp only [Option.map_eq_some_iff] at he
            obtain ⟨r, hr, rfl⟩ := he
            exact ⟨.bool r, by simp [hg, run_eql_struct, heq r hr], .p (.bool _)⟩
          · simp only [Option.map_eq_some_iff] at he
            obtain ⟨r, hr, rfl⟩ := he
            exact ⟨.bool (!r), by simp [hg, run_neq_struct, heq r hr], .p (.bool _)⟩
          · cases he
        · cases hks
      · cases hks
    · cases he
  · cases he

end
end Go.Vm
