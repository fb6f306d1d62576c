/- The built-in clear over slices of one's own. No condition. -/
import Derived.Test.YtfjmcdacnhfacaaGreatDoorVmJ
set_option linter.all false
namespace Go.Vm
open Go

def clearE (P : Program) (t : TypeId) (tt : Option Tmp) (s : St) (x : E) : Option St :=
  match tElem P t with
  | none => none
  | some el =>
    match tSize P el, tZero P el, x with
    | some n, some zs, .sl id sz off len =>
      if len = 0 then some (s.set tt (.tup []))
      else match s.heap id with
        | some blk => if 0 < n ∧ sz = n ∧ blk.excl = true ∧ off + len * n ≤ blk.cells.length then some (St.set { s with heap := updI s.heap id (some ⟨true, setRange blk.cells off (zerosE zs len)⟩) } tt (.tup [])) else none
        | none => none
    | some _, some _, .nil => some (s.set tt (.tup []))
    | some _, some _, .p (.list _ []) => some (s.set tt (.tup []))
    | _, _, _ => none

section
variable {P : Program} {C : Ctx} {s : St} {φ : Id → Nat × Nat} {a : Act} {w : World}

theorem clear_run {t ty : TypeId} {d : Option Tmp} {c0 : Value} {x0 : E} {s' : St} (h : SimAt C s φ a w) (h0 : RepE s.cnt φ (Ok C s.heap φ) w c0 x0)
    (he : clearE P t d s x0 = some s') : Steps1 P C a w (Builtin.clear_ #[t] ty #[c0]) d s' := by
  unfold clearE at he
  split at he
  · cases he
  rename_i el hel
  have hu := tElem_spec hel
  have stay : ∀ (o : Option Addr) (cap : Nat), c0 = .slice o 0 cap → s' = s.set d (.tup []) → Steps1 P C a w (Builtin.clear_ #[t] ty #[c0]) d s' := by
    intro o cap hc hs'
    subst hc; subst hs'
    refine ⟨.tuple #[], w, φ, ?_, h.set (.tup rfl fun j hj => by simp at hj)⟩
    cases o <;> simp [Builtin.clear_, run_underlying hu]
  split at he
  · rename_i n zs id sz off len hn hz
    split at he
    · rename_i hl
      injection he with he
      subst hl
      cases h0 with
      | sl _ _ cap g1 g2 g3 g4 g5 g6 => exact stay _ _ rfl he.symm
    · rename_i hl
      split at he
      rotate_left
      · cases he
      rename_i blk hb
      split at he
      rotate_left
      · cases he
      rename_i hc
      obtain ⟨hn0, rfl, hex, hv⟩ := hc
      injection he with he; subst he
      obtain ⟨ti, z, hi, hiz, hzs, hzz, hzl, hz1⟩ := tZero_spec hz
      have hni : sz = ti.size := by unfold tSize at hn; simp [hi] at hn; exact hn.symm
      have hzn : zs.length = sz := by omega
      cases h0 with
      | sl _ _ cap g1 g2 g3 g4 g5 g6 =>
      rename_i b base arr0 T0 fr0
      obtain ⟨p1, p2, arr, T, fr, r1, r2, r3, r4, r5⟩ := h.heap.blk id blk hb
      have r1' := r1
      rw [g2] at r1 r2 r4 r5
      simp only at r1 r2 r4 r5
      rw [g5] at r1
      injection r1 with r1; injection r1 with e1 e2 e3; subst e1; subst e2; subst e3
      have hlen := zerosE_length zs len
      generalize hvs : (Builtin.zeroCells z.cells len).toList = vs
      have hvl : vs.length = len * sz := by rw [← hvs]; simp [Builtin.zeroCells]; rw [hzs, ← hni]
      have hget : ∀ q, q < len * sz → vs.getD q undef = at_ z.cells (q % sz) := by
        intro q hq
        have hm : q % z.cells.size < z.cells.size := Nat.mod_lt _ (by omega)
        have hzc : z.cells.size = sz := by omega
        have hq' : q < len * z.cells.size := by rw [hzc]; exact hq
        rw [← hvs]
        simp only [Builtin.zeroCells, List.getD_eq_getElem?_getD]
        simp [hq', hzc, hq, Nat.mod_lt q hn0, at_]
      have hone : ∀ u ∈ vs, u.oneCell' = true := by
        intro u hu
        obtain ⟨j, hj, rfl⟩ := List.mem_iff_getElem.1 hu
        have := hget j (by omega)
        rw [List.getD_eq_getElem?_getD, List.getElem?_eq_getElem hj, Option.getD_some] at this
        rw [this]; exact hz1 _ (by have := Nat.mod_lt j hn0; omega)
      obtain ⟨w', arr', hr, hW⟩ := run_storeCells_ex (P := P) (off := base + off) vs 0 arr0 w g5 (by omega) r3 hone
      refine ⟨.tuple #[], w', φ, ?_, (h.store hb hex (off := off) (es := zerosE zs len) (by rw [hlen, hzn]; omega) (vs := vs) (by rw [hlen, hzn]; exact hvl) (fun j hj => ?_) (fun j hj => ?_) r1' (arr' := arr') (by rw [g2]; simpa using hW)).set (.tup rfl fun j hj => by simp at hj)⟩
      · have hr' : (storeCells ⟨b, base + off, none⟩ (Builtin.zeroCells z.cells len).toList).run P w = .ok () w' := by rw [hvs]; simpa using hr
        have hzero : (zeroValue el).run P w = .ok z w := by simp [zeroValue, typeInfo, hi, hiz]
        obtain ⟨m, rfl⟩ : ∃ m, len = m + 1 := ⟨len - 1, by omega⟩
        simp [Builtin.clear_, run_underlying hu, hzero, hr']
      · rw [hlen, hzn] at hj
        rw [hget j hj]; exact hz1 _ (by have := Nat.mod_lt j hn0; omega)
      · have hj' := hj
        rw [hlen, hzn] at hj'
        rw [hget j hj', zerosE_get hn0 hzn]
        subst hzz
        have hm : j % sz < z.cells.size := by have := Nat.mod_lt j hn0; omega
        have : (z.cells.toList.map absV)[j % sz]'(by simpa using hm) = absV (at_ z.cells (j % sz)) := by simp [at_, hm]
        rw [this]; exact absV_rep _
  · injection he with he
    cases h0
    exact stay none 0 rfl he.symm
  · injection he with he
    cases h0 with
    | p h0 =>
    cases h0 with
    | empty o cap sz => exact stay _ _ rfl he.symm
    | list h1 h2 h3 h4 h5 h6 h7 h8 =>
      rename_i len cap arr T fr
      have : len = 0 := by
        rcases Nat.eq_zero_or_pos len with h | h
        · exact h
        · have := Nat.mul_pos h h2; simp at h3; omega
      subst this
      exact stay _ _ rfl he.symm
  · cases he

end
end Go.Vm
