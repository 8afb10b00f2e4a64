/- The tree machine: equality, keys. -/
import Derived.Test.YtjoajdlnfgfjgaaTmD
import Derived.Laws.StructEq
namespace Go.TM
open Go.RowKit

def valOf (P : Program) (t : TypeId) (xs : List Value) : Value := if TM.isAgg P t then .agg xs.toArray else xs.headD undef

theorem part_sub {P : Program} {t : TypeId} {d : TypeDesc} (hd : P.underlying t = some d) (xs : List Value) (o : Nat) (hl : (sub P t xs o).length = if TM.isAgg P t then P.cellsOf t else 1) (w : World) :
    (part t xs.toArray o).run P w = .ok (valOf P t (sub P t xs o)) w := by
  have hk : known P t = true := by simp [known, hd]
  unfold part
  rw [Sem.run_bind, run_isAgg' hk]
  simp only [Result.andThen_ok]
  unfold valOf
  cases ha : TM.isAgg P t with
  | true =>
    simp only [if_true, Sem.run_bind, run_sizeOf' hd, Result.andThen_ok, Sem.run_pure]
    congr 2
    simp [sub, ha, Nat.add_sub_cancel_left]
  | false =>
    simp only [sub, ha, Bool.false_eq_true, if_false] at hl ⊢
    cases hx : xs.drop o with
    | nil => rw [hx] at hl; simp at hl
    | cons y r =>
      have : xs[o]? = some y := by
        have := congrArg (·[0]?) hx
        simpa [List.getElem?_drop] using this
      simp [this]

theorem both_some {a b : Option Bool} {r : Bool} (h : both a b = some r) : ∃ x y, a = some x ∧ b = some y ∧ r = (x && y) := by
  cases a <;> cases b <;> simp [both] at h ⊢
  exact h.symm

theorem eqV_len {P : Program} {d : Nat} {t : TypeId} {xs ys : List Value} {r : Bool} (h : eqV P d t xs ys = some r) :
    (∃ e, P.underlying t = some e) ∧ xs.length = (if TM.isAgg P t then P.cellsOf t else 1) ∧ ys.length = (if TM.isAgg P t then P.cellsOf t else 1) := by
  cases d with
  | zero => cases h
  | succ d =>
    unfold eqV at h
    split at h
    · rename_i fs hd
      split at h
      · cases h
      · rename_i hc
        simp only [Bool.or_eq_true, bne_iff_ne, not_or, Bool.not_eq_true, Decidable.not_not] at hc
        exact ⟨⟨_, hd⟩, by simp [TM.isAgg, hd, hc.1.2], by simp [TM.isAgg, hd, hc.2]⟩
    · rename_i n e hd
      split at h
      · rename_i hc
        simp only [Bool.and_eq_true, beq_iff_eq] at hc
        exact ⟨⟨_, hd⟩, by simp [TM.isAgg, hd, hc.1.2], by simp [TM.isAgg, hd, hc.2]⟩
      · cases h
    · rename_i k h1 h2 hd
      have ha : TM.isAgg P t = false := by
        simp only [TM.isAgg, hd]
        cases k <;> first | rfl | (exfalso; first | exact h1 _ rfl | exact h2 _ _ rfl)
      split at h
      · exact ⟨⟨_, hd⟩, by simp [ha], by simp [ha]⟩
      · cases h
    · cases h

theorem scEq_sound {P : Program} {t : TypeId} {k : TypeDesc} {a b : Value} {r : Bool} (ht : P.underlying t = some k) (h : scEq k a b = some r) (D : Nat) (w : World) :
    (Op.equalIn (D + 1) t a b).run P w = .ok r w := by
  unfold scEq at h
  split at h
  · split at h
    case isFalse => cases h
    rename_i hk
    subst hk
    obtain rfl := Option.some.inj h
    exact run_equalIn_int w D t _ _ _ _ ht
  · obtain rfl := Option.some.inj h
    exact run_equalIn_bool' w D t _ _ ht
  · obtain rfl := Option.some.inj h
    rw [run_equalIn_string w D t _ _ ht, ← beq_toListBytes]
  · cases h

theorem eqFs_sound {P : Program} {eq : TypeId → List Value → List Value → Option Bool} {xs ys : List Value} {D : Nat} {w : World}
    (ih : ∀ t as bs r, eq t as bs = some r → ((∃ e, P.underlying t = some e) ∧ as.length = (if TM.isAgg P t then P.cellsOf t else 1) ∧ bs.length = (if TM.isAgg P t then P.cellsOf t else 1)) ∧
      (Op.equalIn D t (valOf P t as) (valOf P t bs)).run P w = .ok r w) :
    ∀ (fs : List Field) (r : Bool), eqFs P eq xs ys fs = some r → (Op.eqFields D xs.toArray ys.toArray fs).run P w = .ok r w
  | [], r, h => by
    obtain rfl := Option.some.inj h
    rfl
  | f :: fs, r, h => by
    unfold eqFs at h
    split at h
    case isTrue => cases h
    rename_i hn
    obtain ⟨x, y, h1, h2, rfl⟩ := both_some h
    obtain ⟨⟨⟨e, he⟩, l1, l2⟩, hx⟩ := ih _ _ _ _ h1
    have hrest := eqFs_sound ih fs y h2
    have hn' : f.name ≠ "_" := by simpa using hn
    simp only [Op.eqFields, hn', ne_eq, not_false_eq_true, if_true, Sem.run_bind, part_sub he xs _ l1, part_sub he ys _ l2, hx, Result.andThen_ok]
    cases x
    · simp
    · simpa using hrest

theorem eqIs_sound {P : Program} {e : TypeId} {eq : TypeId → List Value → List Value → Option Bool} {xs ys : List Value} {D : Nat} {w : World}
    (ih : ∀ t as bs r, eq t as bs = some r → ((∃ e, P.underlying t = some e) ∧ as.length = (if TM.isAgg P t then P.cellsOf t else 1) ∧ bs.length = (if TM.isAgg P t then P.cellsOf t else 1)) ∧
      (Op.equalIn D t (valOf P t as) (valOf P t bs)).run P w = .ok r w) :
    ∀ (n i : Nat) (r : Bool), eqIs P e eq xs ys n i = some r → (Op.eqItems D e (P.cellsOf e) xs.toArray ys.toArray (List.range' i n)).run P w = .ok r w
  | 0, i, r, h => by
    obtain rfl := Option.some.inj h
    rfl
  | n + 1, i, r, h => by
    unfold eqIs at h
    obtain ⟨x, y, h1, h2, rfl⟩ := both_some h
    obtain ⟨⟨⟨e', he⟩, l1, l2⟩, hx⟩ := ih _ _ _ _ h1
    have hrest := eqIs_sound ih n (i + 1) y h2
    simp only [List.range'_succ, Op.eqItems, Sem.run_bind, part_sub he xs _ l1, part_sub he ys _ l2, hx, Result.andThen_ok]
    cases x
    · simp
    · simpa using hrest

theorem eqV_sound {P : Program} : ∀ (d : Nat) (t : TypeId) (xs ys : List Value) (r : Bool), eqV P d t xs ys = some r → ∀ (D : Nat) (w : World), d ≤ D →
    (Op.equalIn D t (valOf P t xs) (valOf P t ys)).run P w = .ok r w
  | 0, _, _, _, _, h, _, _, _ => by cases h
  | d + 1, t, xs, ys, r, h, D, w, hD => by
    obtain ⟨D, rfl⟩ : ∃ E, D = E + 1 := ⟨D - 1, by omega⟩
    have hlen := eqV_len h
    have ih : ∀ t as bs r, eqV P d t as bs = some r → ((∃ e, P.underlying t = some e) ∧ as.length = (if TM.isAgg P t then P.cellsOf t else 1) ∧ bs.length = (if TM.isAgg P t then P.cellsOf t else 1)) ∧
        (Op.equalIn D t (valOf P t as) (valOf P t bs)).run P w = .ok r w := fun t as bs r h => ⟨eqV_len h, eqV_sound d t as bs r h D w (by omega)⟩
    unfold eqV at h
    split at h
    · rename_i fs hd
      have ha : TM.isAgg P t = true := by simp [TM.isAgg, hd]
      split at h
      · cases h
      · rename_i hc
        simp only [Bool.or_eq_true, not_or, Bool.not_eq_true] at hc
        have hf : P.fieldsOf t = fs := by simp [Program.fieldsOf, hd]
        simp only [valOf, ha, if_true]
        rw [run_equalIn_struct w D t _ _ (by rw [hf]; exact hd) hc.1.1, hf]
        exact eqFs_sound ih fs.toList r h
    · rename_i n e hd
      have ha : TM.isAgg P t = true := by simp [TM.isAgg, hd]
      split at h
      · rename_i hc
        simp only [Bool.and_eq_true] at hc
        obtain ⟨de, hde⟩ := known_some hc.1.1
        obtain ⟨i, hi⟩ := underlying_info hde
        simp only [valOf, ha, if_true]
        rw [run_equalIn_array w D _ _ hd hi, List.range_eq_range']
        exact eqIs_sound ih n 0 r h
      · cases h
    · rename_i k h1 h2 hd
      have ha : TM.isAgg P t = false := by
        simp only [TM.isAgg, hd]
        cases k <;> first | rfl | (exfalso; first | exact h1 _ rfl | exact h2 _ _ rfl)
      split at h
      · simp only [valOf, ha, Bool.false_eq_true, if_false, List.headD_cons]
        exact scEq_sound hd h D w
      · cases h
    · cases h

end Go.TM
